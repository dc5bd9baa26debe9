/-
  errors.As at this program's errors.
-/
import Derived.Test.YtpkeiffclipjmaaGreatDoorProg
import Derived.WalkKit
import Derived.LaidEql
import Derived.Stop.Asserts
import Derived.RowKitTokens
import Derived.Below
namespace Go.Proofs.YtpkeiffclipjmaaGreatDoor.Er
open Go Go.RowKit Go.Extern.Stop Go.Stop Go.Extern

/-! ### What the model says of internal/reflectlite at this program's types: 80: *at, 82: **at, 85: code, 86: *code, 65: error, 124: reflectlite's rtype -/
theorem valueOf82 (t : Addr) (w : World) : (ReflectliteValue.unpack (.iface 82 (.pointer (some t)))).run Tryz.prog w
    = .ok (.agg #[.pointer (some ⟨4, 82, none⟩), .pointer (some ⟨w.heap.size, 0, none⟩), .int .u64 150]) (w.alloc (.cells #[.pointer (some t)] 82)) := by kernel_rfl
theorem valueOf86 (t : Addr) (w : World) : (ReflectliteValue.unpack (.iface 86 (.pointer (some t)))).run Tryz.prog w
    = .ok (.agg #[.pointer (some ⟨4, 86, none⟩), .pointer (some ⟨w.heap.size, 0, none⟩), .int .u64 150]) (w.alloc (.cells #[.pointer (some t)] 86)) := by kernel_rfl
theorem valueOf80 (e : Addr) (w : World) : (ReflectliteValue.unpack (.iface 80 (.pointer (some e)))).run Tryz.prog w
    = .ok (.agg #[.pointer (some ⟨4, 80, none⟩), .pointer (some ⟨w.heap.size, 0, none⟩), .int .u64 150]) (w.alloc (.cells #[.pointer (some e)] 80)) := by kernel_rfl
theorem valueOf85 (n : Int) (w : World) : (ReflectliteValue.unpack (.iface 85 (.int .i64 n))).run Tryz.prog w
    = .ok (.agg #[.pointer (some ⟨4, 85, none⟩), .pointer (some ⟨w.heap.size, 0, none⟩), .int .u64 130]) (w.alloc (.cells #[.int .i64 n] 85)) := by kernel_rfl
theorem type82 (a : Addr) (w : World) : (ReflectliteValue.methodAny (ReflectliteValue.valueError "reflectlite.Value.Type" 0) (fun t _ _ _ => ReflectliteType.toType t) #[.agg #[.pointer (some ⟨4, 82, none⟩), .pointer (some a), .int .u64 150]]).run Tryz.prog w
    = .ok (.iface 124 (.agg #[.pointer (some ⟨4, 82, none⟩)])) w := by kernel_rfl
theorem type86 (a : Addr) (w : World) : (ReflectliteValue.methodAny (ReflectliteValue.valueError "reflectlite.Value.Type" 0) (fun t _ _ _ => ReflectliteType.toType t) #[.agg #[.pointer (some ⟨4, 86, none⟩), .pointer (some a), .int .u64 150]]).run Tryz.prog w
    = .ok (.iface 124 (.agg #[.pointer (some ⟨4, 86, none⟩)])) w := by kernel_rfl
theorem methodKind (h : Value) (w : World) : (Go.method 302 124 (.agg #[h]) "Kind").run Tryz.prog w = .ok (140, h) w := by kernel_rfl
theorem methodElem (h : Value) (w : World) : (Go.method 302 124 (.agg #[h]) "Elem").run Tryz.prog w = .ok (152, .agg #[h]) w := by kernel_rfl
theorem methodImplements (h : Value) (w : World) : (Go.method 302 124 (.agg #[h]) "Implements").run Tryz.prog w = .ok (153, .agg #[h]) w := by kernel_rfl
theorem methodAssignableTo (h : Value) (w : World) : (Go.method 302 124 (.agg #[h]) "AssignableTo").run Tryz.prog w = .ok (150, .agg #[h]) w := by kernel_rfl
theorem kind82 (w : World) : ((ReflectliteType.abiMethod fun t => (fun a : Nat => Value.int IntKind.u8 (a : Int)) <$> Rtype.kind t) #[.pointer (some ⟨4, 82, none⟩)]).run Tryz.prog w = .ok (.int .u8 22) w := by kernel_rfl
theorem kind86 (w : World) : ((ReflectliteType.abiMethod fun t => (fun a : Nat => Value.int IntKind.u8 (a : Int)) <$> Rtype.kind t) #[.pointer (some ⟨4, 86, none⟩)]).run Tryz.prog w = .ok (.int .u8 22) w := by kernel_rfl
theorem kind80 (w : World) : ((ReflectliteType.abiMethod fun t => (fun a : Nat => Value.int IntKind.u8 (a : Int)) <$> Rtype.kind t) #[.pointer (some ⟨4, 80, none⟩)]).run Tryz.prog w = .ok (.int .u8 22) w := by kernel_rfl
theorem kind85 (w : World) : ((ReflectliteType.abiMethod fun t => (fun a : Nat => Value.int IntKind.u8 (a : Int)) <$> Rtype.kind t) #[.pointer (some ⟨4, 85, none⟩)]).run Tryz.prog w = .ok (.int .u8 2) w := by kernel_rfl
theorem elem82 (w : World) : (ReflectliteType.method ReflectliteType.elem #[.agg #[.pointer (some ⟨4, 82, none⟩)]]).run Tryz.prog w = .ok (.iface 124 (.agg #[.pointer (some ⟨4, 80, none⟩)])) w := by kernel_rfl
theorem elem86 (w : World) : (ReflectliteType.method ReflectliteType.elem #[.agg #[.pointer (some ⟨4, 86, none⟩)]]).run Tryz.prog w = .ok (.iface 124 (.agg #[.pointer (some ⟨4, 85, none⟩)])) w := by kernel_rfl
theorem implements80 (w : World) : (ReflectliteType.relation "Implements" ReflectliteType.implements_ #[.agg #[.pointer (some ⟨4, 80, none⟩)], .iface 124 (.agg #[.pointer (some ⟨4, 65, none⟩)])]).run Tryz.prog w = .ok (.bool true) w := by kernel_rfl
theorem implements85 (w : World) : (ReflectliteType.relation "Implements" ReflectliteType.implements_ #[.agg #[.pointer (some ⟨4, 85, none⟩)], .iface 124 (.agg #[.pointer (some ⟨4, 65, none⟩)])]).run Tryz.prog w = .ok (.bool true) w := by kernel_rfl
theorem typeOf80 (v : Value) (w : World) : (ReflectliteType.typeOf #[.iface 80 v]).run Tryz.prog w = .ok (.iface 124 (.agg #[.pointer (some ⟨4, 80, none⟩)])) w := by kernel_rfl
theorem typeOf85 (v : Value) (w : World) : (ReflectliteType.typeOf #[.iface 85 v]).run Tryz.prog w = .ok (.iface 124 (.agg #[.pointer (some ⟨4, 85, none⟩)])) w := by kernel_rfl
theorem assign8080 (w : World) : (ReflectliteType.relation "AssignableTo" ReflectliteType.assignableTo #[.agg #[.pointer (some ⟨4, 80, none⟩)], .iface 124 (.agg #[.pointer (some ⟨4, 80, none⟩)])]).run Tryz.prog w = .ok (.bool true) w := by kernel_rfl
theorem assign8585 (w : World) : (ReflectliteType.relation "AssignableTo" ReflectliteType.assignableTo #[.agg #[.pointer (some ⟨4, 85, none⟩)], .iface 124 (.agg #[.pointer (some ⟨4, 85, none⟩)])]).run Tryz.prog w = .ok (.bool true) w := by kernel_rfl
theorem assign8580 (w : World) : (ReflectliteType.relation "AssignableTo" ReflectliteType.assignableTo #[.agg #[.pointer (some ⟨4, 85, none⟩)], .iface 124 (.agg #[.pointer (some ⟨4, 80, none⟩)])]).run Tryz.prog w = .ok (.bool false) w := by kernel_rfl
theorem assign8085 (w : World) : (ReflectliteType.relation "AssignableTo" ReflectliteType.assignableTo #[.agg #[.pointer (some ⟨4, 80, none⟩)], .iface 124 (.agg #[.pointer (some ⟨4, 85, none⟩)])]).run Tryz.prog w = .ok (.bool false) w := by kernel_rfl
theorem elemOf82 (w : World) : (Rtype.elem? 82).run Tryz.prog w = .ok (some 80) w := by kernel_rfl
theorem elemOf86 (w : World) : (Rtype.elem? 86).run Tryz.prog w = .ok (some 85) w := by kernel_rfl
theorem mk80 (p : Addr) (w : World) : (ReflectliteValue.mk 80 p ReflectliteValue.flagAddr).run Tryz.prog w = .ok (.agg #[.pointer (some ⟨4, 80, none⟩), .pointer (some p), .int .u64 406]) w := by kernel_rfl
theorem mk85 (p : Addr) (w : World) : (ReflectliteValue.mk 85 p ReflectliteValue.flagAddr).run Tryz.prog w = .ok (.agg #[.pointer (some ⟨4, 85, none⟩), .pointer (some p), .int .u64 386]) w := by kernel_rfl

/-! ### The entries that read or write memory -/
theorem rlm (z : Sem Value) (f : TypeId → Addr → Nat → Nat → Sem Value) (v : Value) :
    ReflectliteValue.method z f #[v] = (do match ← ReflectliteValue.parts v with | none => z | some (t, a, fl) => f t a fl (fl % 32)) := rfl
theorem parts82 (a : Addr) (w : World) : (ReflectliteValue.parts (.agg #[.pointer (some ⟨4, 82, none⟩), .pointer (some a), .int .u64 150])).run Tryz.prog w = .ok (some (82, a, 150)) w := by kernel_rfl
theorem parts86 (a : Addr) (w : World) : (ReflectliteValue.parts (.agg #[.pointer (some ⟨4, 86, none⟩), .pointer (some a), .int .u64 150])).run Tryz.prog w = .ok (some (86, a, 150)) w := by kernel_rfl
theorem isNil82 (a p : Addr) (W : World) (ha : W.cell? a = some (.pointer (some p))) :
    (ReflectliteValue.method (ReflectliteValue.valueError "reflectlite.Value.IsNil" 0) ReflectliteValue.isNil #[.agg #[.pointer (some ⟨4, 82, none⟩), .pointer (some a), .int .u64 150]]).run Tryz.prog W = .ok (.bool false) W := by
  rw [rlm]
  simp only [Sem.run_bind, parts82, Result.andThen]
  simp [ReflectliteValue.isNil, loadVar, isAgg, underlying, Tryz.underlying82, ha, Result.andThen]
theorem isNil86 (a p : Addr) (W : World) (ha : W.cell? a = some (.pointer (some p))) :
    (ReflectliteValue.method (ReflectliteValue.valueError "reflectlite.Value.IsNil" 0) ReflectliteValue.isNil #[.agg #[.pointer (some ⟨4, 86, none⟩), .pointer (some a), .int .u64 150]]).run Tryz.prog W = .ok (.bool false) W := by
  rw [rlm]
  simp only [Sem.run_bind, parts86, Result.andThen]
  simp [ReflectliteValue.isNil, loadVar, isAgg, underlying, Tryz.underlying86, ha, Result.andThen]
theorem elemV82 (a p : Addr) (W : World) (ha : W.cell? a = some (.pointer (some p))) :
    (ReflectliteValue.method (ReflectliteValue.valueError "reflectlite.Value.Elem" 0) ReflectliteValue.elem #[.agg #[.pointer (some ⟨4, 82, none⟩), .pointer (some a), .int .u64 150]]).run Tryz.prog W
      = .ok (.agg #[.pointer (some ⟨4, 80, none⟩), .pointer (some p), .int .u64 406]) W := by
  rw [rlm]
  simp only [Sem.run_bind, parts82, Result.andThen]
  simp [ReflectliteValue.elem, loadVar, isAgg, underlying, Tryz.underlying82, ha, Result.andThen, elemOf82, mk80]
theorem elemV86 (a p : Addr) (W : World) (ha : W.cell? a = some (.pointer (some p))) :
    (ReflectliteValue.method (ReflectliteValue.valueError "reflectlite.Value.Elem" 0) ReflectliteValue.elem #[.agg #[.pointer (some ⟨4, 86, none⟩), .pointer (some a), .int .u64 150]]).run Tryz.prog W
      = .ok (.agg #[.pointer (some ⟨4, 85, none⟩), .pointer (some p), .int .u64 386]) W := by
  rw [rlm]
  simp only [Sem.run_bind, parts86, Result.andThen]
  simp [ReflectliteValue.elem, loadVar, isAgg, underlying, Tryz.underlying86, ha, Result.andThen, elemOf86, mk85]
theorem rls (v x : Value) : ReflectliteValue.set #[v, x] = (do
    let (some (dst, a, fl), some (src, b, _)) := (← ReflectliteValue.parts v, ← ReflectliteValue.parts x)
      | unsupported (.noEntry "extern/(internal/reflectlite.Value).Set.zeroValue")
    if fl / ReflectliteValue.flagAddr % 2 == 0 then unsupported (.noEntry "extern/(internal/reflectlite.Value).Set.unaddressable")
    let val ← loadVar src b
    if ← Rtype.directlyAssignable dst src then storeVar dst a val
    else if ← Rtype.implements dst src then
      if (← Rtype.kind src) == 20 then
        match val with
        | .nilIface => unsupported (.noEntry "extern/reflectlite: a nil value of one interface type handed on as a value of another")
        | _ => storeVar dst a val
      else storeVar dst a (.iface src val)
    else panicString ("reflectlite.Set: value of type " ++ (← Rtype.spelt src) ++ " is not assignable to type " ++ (← Rtype.spelt dst))
    pure (.tuple #[])) := rfl
theorem parts80a (a : Addr) (w : World) : (ReflectliteValue.parts (.agg #[.pointer (some ⟨4, 80, none⟩), .pointer (some a), .int .u64 406])).run Tryz.prog w = .ok (some (80, a, 406)) w := by kernel_rfl
theorem parts80 (a : Addr) (w : World) : (ReflectliteValue.parts (.agg #[.pointer (some ⟨4, 80, none⟩), .pointer (some a), .int .u64 150])).run Tryz.prog w = .ok (some (80, a, 150)) w := by kernel_rfl
theorem parts85a (a : Addr) (w : World) : (ReflectliteValue.parts (.agg #[.pointer (some ⟨4, 85, none⟩), .pointer (some a), .int .u64 386])).run Tryz.prog w = .ok (some (85, a, 386)) w := by kernel_rfl
theorem parts85 (a : Addr) (w : World) : (ReflectliteValue.parts (.agg #[.pointer (some ⟨4, 85, none⟩), .pointer (some a), .int .u64 130])).run Tryz.prog w = .ok (some (85, a, 130)) w := by kernel_rfl
theorem direct80 (w : World) : (Rtype.directlyAssignable 80 80).run Tryz.prog w = .ok true w := by kernel_rfl
theorem direct85 (w : World) : (Rtype.directlyAssignable 85 85).run Tryz.prog w = .ok true w := by kernel_rfl
theorem set80 (ta b e : Addr) (old : Value) (W : World) (hb : W.cell? b = some (.pointer (some e))) (ht : W.cell? ta = some old) (hf : W.frozen? ta = false) :
    (ReflectliteValue.set #[.agg #[.pointer (some ⟨4, 80, none⟩), .pointer (some ta), .int .u64 406], .agg #[.pointer (some ⟨4, 80, none⟩), .pointer (some b), .int .u64 150]]).run Tryz.prog W
      = .ok (.tuple #[]) (W.setCell ta (.pointer (some e))) := by
  rw [rls]
  simp only [Sem.run_bind, parts80a, parts80, Result.andThen]
  simp [ReflectliteValue.flagAddr, loadVar, isAgg, underlying, Tryz.underlying80, hb, Result.andThen, direct80, storeVar, Value.cells, storeCells, Addr.add]
  rw [run_store Tryz.prog W ta _ _ (by rfl)]
  simp [ht, hf]
theorem set85 (ta b : Addr) (n : Int) (old : Value) (W : World) (hb : W.cell? b = some (.int .i64 n)) (ht : W.cell? ta = some old) (hf : W.frozen? ta = false) :
    (ReflectliteValue.set #[.agg #[.pointer (some ⟨4, 85, none⟩), .pointer (some ta), .int .u64 386], .agg #[.pointer (some ⟨4, 85, none⟩), .pointer (some b), .int .u64 130]]).run Tryz.prog W
      = .ok (.tuple #[]) (W.setCell ta (.int .i64 n)) := by
  rw [rls]
  simp only [Sem.run_bind, parts85a, parts85, Result.andThen]
  simp [ReflectliteValue.flagAddr, loadVar, isAgg, underlying, Tryz.underlying85, hb, Result.andThen, direct85, storeVar, Value.cells, storeCells, Addr.add]
  rw [run_store Tryz.prog W ta _ _ (by rfl)]
  simp [ht, hf]
theorem no85_138 (v : Value) (xT : TypeId) (w : World) : (Instr.typeAssert (.iface 85 v) xT 138 true).run Tryz.prog w = .ok (.tuple #[.nilIface, .bool false]) w := run_typeAssert_lacksB Tryz.underlying138 (by kernel_rfl) (by kernel_rfl) v xT w
theorem no85_129 (v : Value) (xT : TypeId) (w : World) : (Instr.typeAssert (.iface 85 v) xT 129 true).run Tryz.prog w = .ok (.tuple #[.nilIface, .bool false]) w := run_typeAssert_lacksB Tryz.underlying129 (by kernel_rfl) (by kernel_rfl) v xT w
theorem no85_131 (v : Value) (xT : TypeId) (w : World) : (Instr.typeAssert (.iface 85 v) xT 131 true).run Tryz.prog w = .ok (.tuple #[.nilIface, .bool false]) w := run_typeAssert_lacksB Tryz.underlying131 (by kernel_rfl) (by kernel_rfl) v xT w
theorem no85_126 (v : Value) (xT : TypeId) (w : World) : (Instr.typeAssert (.iface 85 v) xT 126 true).run Tryz.prog w = .ok (.tuple #[.nilIface, .bool false]) w := run_typeAssert_lacksB Tryz.underlying126 (by kernel_rfl) (by kernel_rfl) v xT w
theorem no80_138 (v : Value) (xT : TypeId) (w : World) : (Instr.typeAssert (.iface 80 v) xT 138 true).run Tryz.prog w = .ok (.tuple #[.nilIface, .bool false]) w := run_typeAssert_lacksB Tryz.underlying138 (by kernel_rfl) (by kernel_rfl) v xT w
theorem no80_126 (v : Value) (xT : TypeId) (w : World) : (Instr.typeAssert (.iface 80 v) xT 126 true).run Tryz.prog w = .ok (.tuple #[.nilIface, .bool false]) w := run_typeAssert_lacksB Tryz.underlying126 (by kernel_rfl) (by kernel_rfl) v xT w
theorem is80_129 (v : Value) (xT : TypeId) (w : World) : (Instr.typeAssert (.iface 80 v) xT 129 true).run Tryz.prog w = .ok (.tuple #[.iface 80 v, .bool true]) w := run_typeAssert_hasB Tryz.underlying129 (by kernel_rfl) v xT w
theorem methodUnwrap (h : Value) (w : World) : (Go.method 302 80 h "Unwrap").run Tryz.prog w = .ok (144, h) w := by kernel_rfl
theorem as_nil (t : Value) (w : World) : Calls Tryz.prog 51 #[.nilIface, t] w fun e w' => e = .returned (.bool false) ∧ w' = w := by
  go_enter Tryz.func51, Tryz.ntmps51
  go_wp2
  go_ret
  exact ⟨rfl, rfl⟩
end Go.Proofs.YtpkeiffclipjmaaGreatDoor.Er
namespace Go.Proofs.YtpkeiffclipjmaaGreatDoor.Er
open Go Go.RowKit Go.Extern.Stop Go.Stop Go.Extern

abbrev vv (T : Nat) (b : Nat) (fl : Int) : Value := .agg #[.pointer (some ⟨4, T, none⟩), .pointer (some ⟨b, 0, none⟩), .int .u64 fl]
abbrev rt (T : Nat) : Value := .iface 124 (.agg #[.pointer (some ⟨4, T, none⟩)])
set_option maxHeartbeats 4000000 in
set_option maxRecDepth 100000 in
/-- One somewhere, asked as such. -/
theorem as_at_at (e t : Addr) (vb : Nat) (old : Value) (w : World) (hv : w.cell? ⟨vb, 0, none⟩ = some (.pointer (some t))) (ht0 : w.cell? t = some old) (hf0 : w.frozen? t = false) :
    Calls Tryz.prog 69 #[.iface 80 (.pointer (some e)), .iface 82 (.pointer (some t)), vv 82 vb 150, rt 80] w fun ev w' => ev = .returned (.bool true) ∧ w' = (((w.alloc (.cells #[.pointer (some ⟨4, 82, none⟩), .pointer (some ⟨vb, 0, none⟩), .int .u64 150] 108)).alloc (.cells #[.pointer (some e)] 80))).setCell t (.pointer (some e)) := by
  have h60 := @run_callFunc_extern Tryz.prog 60 _ ReflectliteType.typeOf Tryz.func60 (by kernel_rfl) (by kernel_rfl) (by kernel_rfl) (by kernel_rfl)
  have h150 := @run_callFunc_extern Tryz.prog 150 _ (ReflectliteType.relation "AssignableTo" ReflectliteType.assignableTo) Tryz.func150 (by kernel_rfl) (by kernel_rfl) (by kernel_rfl) (by kernel_rfl)
  have h86 := @run_callFunc_extern Tryz.prog 86 _ (ReflectliteValue.method (ReflectliteValue.valueError "reflectlite.Value.Elem" 0) ReflectliteValue.elem) Tryz.func86 (by kernel_rfl) (by kernel_rfl) (by kernel_rfl) (by kernel_rfl)
  have h66 := @run_callFunc_extern Tryz.prog 66 _ (fun args => ReflectliteValue.unpack (args.getD 0 (.tuple #[]))) Tryz.func66 (by kernel_rfl) (by kernel_rfl) (by kernel_rfl) (by kernel_rfl)
  have h87 := @run_callFunc_extern Tryz.prog 87 _ ReflectliteValue.set Tryz.func87 (by kernel_rfl) (by kernel_rfl) (by kernel_rfl) (by kernel_rfl)
  have tO := typeOf80
  have mA := methodAssignableTo
  have a80 := assign8080
  have v80 := valueOf80
  have hvl : vb < w.heap.size := by
    rcases Nat.lt_or_ge vb w.heap.size with h | h
    · exact h
    · simp [World.cell?, Array.getElem?_eq_none h] at hv
  have htl : t.block < w.heap.size := by
    rcases Nat.lt_or_ge t.block w.heap.size with h | h
    · exact h
    · simp [World.cell?, Array.getElem?_eq_none h] at ht0
  have el := elemV82 ⟨vb, 0, none⟩ t (w.alloc (.cells #[.pointer (some ⟨4, 82, none⟩), .pointer (some ⟨vb, 0, none⟩), .int .u64 150] 108)) (by rw [World.cell?_alloc_lt _ _ ⟨vb, 0, none⟩ hvl]; exact hv)
  have st := set80 t ⟨w.heap.size + 1, 0, none⟩ e old ((w.alloc (.cells #[.pointer (some ⟨4, 82, none⟩), .pointer (some ⟨vb, 0, none⟩), .int .u64 150] 108)).alloc (.cells #[.pointer (some e)] 80))
    (by rw [World.cell?_alloc_at _ _ _ _ (by simp)]; rfl)
    (by rw [World.cell?_alloc_lt _ _ t (by simp; omega), World.cell?_alloc_lt _ _ t htl]; exact ht0)
    (by rw [World.frozen?_alloc_old _ _ t (by simp; omega), World.frozen?_alloc_old _ _ t (Nat.ne_of_lt htl)]; exact hf0)
  simp only [rt, vv]
  go_enter Tryz.func69, Tryz.ntmps69
  go_wp2
  refine wp_loop_rounds 1 ?_
  rw [rounds_succ]
  go_wp2
  go_ret
  exact ⟨rfl, rfl⟩
set_option maxHeartbeats 4000000 in
set_option maxRecDepth 100000 in
/-- A number, asked as one somewhere. -/
theorem as_code_at (n : Int) (t : Addr) (vb : Nat) (w : World) :
    Calls Tryz.prog 69 #[.iface 85 (.int .i64 n), .iface 82 (.pointer (some t)), vv 82 vb 150, rt 80] w fun ev w' => ev = .returned (.bool false) ∧ w' = w.alloc (.cells #[.pointer (some ⟨4, 82, none⟩), .pointer (some ⟨vb, 0, none⟩), .int .u64 150] 108) := by
  have h60 := @run_callFunc_extern Tryz.prog 60 _ ReflectliteType.typeOf Tryz.func60 (by kernel_rfl) (by kernel_rfl) (by kernel_rfl) (by kernel_rfl)
  have h150 := @run_callFunc_extern Tryz.prog 150 _ (ReflectliteType.relation "AssignableTo" ReflectliteType.assignableTo) Tryz.func150 (by kernel_rfl) (by kernel_rfl) (by kernel_rfl) (by kernel_rfl)
  have h86 := @run_callFunc_extern Tryz.prog 86 _ (ReflectliteValue.method (ReflectliteValue.valueError "reflectlite.Value.Elem" 0) ReflectliteValue.elem) Tryz.func86 (by kernel_rfl) (by kernel_rfl) (by kernel_rfl) (by kernel_rfl)
  have h66 := @run_callFunc_extern Tryz.prog 66 _ (fun args => ReflectliteValue.unpack (args.getD 0 (.tuple #[]))) Tryz.func66 (by kernel_rfl) (by kernel_rfl) (by kernel_rfl) (by kernel_rfl)
  have h87 := @run_callFunc_extern Tryz.prog 87 _ ReflectliteValue.set Tryz.func87 (by kernel_rfl) (by kernel_rfl) (by kernel_rfl) (by kernel_rfl)
  have tO := typeOf85
  have mA := methodAssignableTo
  have a80 := assign8580
  have n1 := no85_138
  have n2 := no85_129
  have n3 := no85_131
  simp only [rt, vv]
  go_enter Tryz.func69, Tryz.ntmps69
  go_wp2
  refine wp_loop_rounds 1 ?_
  rw [rounds_succ]
  go_wp2
  go_ret
  exact ⟨rfl, rfl⟩
set_option maxHeartbeats 4000000 in
set_option maxRecDepth 100000 in
/-- A number, asked as such. -/
theorem as_code_code (n : Int) (t : Addr) (vb : Nat) (old : Value) (w : World) (hv : w.cell? ⟨vb, 0, none⟩ = some (.pointer (some t))) (ht0 : w.cell? t = some old) (hf0 : w.frozen? t = false) :
    Calls Tryz.prog 69 #[.iface 85 (.int .i64 n), .iface 86 (.pointer (some t)), vv 86 vb 150, rt 85] w fun ev w' => ev = .returned (.bool true) ∧ w' = (((w.alloc (.cells #[.pointer (some ⟨4, 86, none⟩), .pointer (some ⟨vb, 0, none⟩), .int .u64 150] 108)).alloc (.cells #[.int .i64 n] 85))).setCell t (.int .i64 n) := by
  have h60 := @run_callFunc_extern Tryz.prog 60 _ ReflectliteType.typeOf Tryz.func60 (by kernel_rfl) (by kernel_rfl) (by kernel_rfl) (by kernel_rfl)
  have h150 := @run_callFunc_extern Tryz.prog 150 _ (ReflectliteType.relation "AssignableTo" ReflectliteType.assignableTo) Tryz.func150 (by kernel_rfl) (by kernel_rfl) (by kernel_rfl) (by kernel_rfl)
  have h86 := @run_callFunc_extern Tryz.prog 86 _ (ReflectliteValue.method (ReflectliteValue.valueError "reflectlite.Value.Elem" 0) ReflectliteValue.elem) Tryz.func86 (by kernel_rfl) (by kernel_rfl) (by kernel_rfl) (by kernel_rfl)
  have h66 := @run_callFunc_extern Tryz.prog 66 _ (fun args => ReflectliteValue.unpack (args.getD 0 (.tuple #[]))) Tryz.func66 (by kernel_rfl) (by kernel_rfl) (by kernel_rfl) (by kernel_rfl)
  have h87 := @run_callFunc_extern Tryz.prog 87 _ ReflectliteValue.set Tryz.func87 (by kernel_rfl) (by kernel_rfl) (by kernel_rfl) (by kernel_rfl)
  have tO := typeOf85
  have mA := methodAssignableTo
  have a85 := assign8585
  have v85 := valueOf85
  have hvl : vb < w.heap.size := by
    rcases Nat.lt_or_ge vb w.heap.size with h | h
    · exact h
    · simp [World.cell?, Array.getElem?_eq_none h] at hv
  have htl : t.block < w.heap.size := by
    rcases Nat.lt_or_ge t.block w.heap.size with h | h
    · exact h
    · simp [World.cell?, Array.getElem?_eq_none h] at ht0
  have el := elemV86 ⟨vb, 0, none⟩ t (w.alloc (.cells #[.pointer (some ⟨4, 86, none⟩), .pointer (some ⟨vb, 0, none⟩), .int .u64 150] 108)) (by rw [World.cell?_alloc_lt _ _ ⟨vb, 0, none⟩ hvl]; exact hv)
  have st := set85 t ⟨w.heap.size + 1, 0, none⟩ n old ((w.alloc (.cells #[.pointer (some ⟨4, 86, none⟩), .pointer (some ⟨vb, 0, none⟩), .int .u64 150] 108)).alloc (.cells #[.int .i64 n] 85))
    (by rw [World.cell?_alloc_at _ _ _ _ (by simp)]; rfl)
    (by rw [World.cell?_alloc_lt _ _ t (by simp; omega), World.cell?_alloc_lt _ _ t htl]; exact ht0)
    (by rw [World.frozen?_alloc_old _ _ t (by simp; omega), World.frozen?_alloc_old _ _ t (Nat.ne_of_lt htl)]; exact hf0)
  simp only [rt, vv]
  go_enter Tryz.func69, Tryz.ntmps69
  go_wp2
  refine wp_loop_rounds 1 ?_
  rw [rounds_succ]
  go_wp2
  go_ret
  exact ⟨rfl, rfl⟩
set_option maxHeartbeats 4000000 in
set_option maxRecDepth 100000 in
/-- One somewhere, asked as a number: what it wraps. -/
theorem as_at_code (n : Int) (eb : Nat) (t : Addr) (vb : Nat) (old : Value) (w : World) (he : w.cell? ⟨eb, 1, none⟩ = some (.iface 85 (.int .i64 n))) (hv : w.cell? ⟨vb, 0, none⟩ = some (.pointer (some t))) (ht0 : w.cell? t = some old) (hf0 : w.frozen? t = false) :
    Calls Tryz.prog 69 #[.iface 80 (.pointer (some ⟨eb, 0, none⟩)), .iface 86 (.pointer (some t)), vv 86 vb 150, rt 85] w fun ev w' => ev = .returned (.bool true) ∧ w' = (((w.alloc (.cells #[.pointer (some ⟨4, 86, none⟩), .pointer (some ⟨vb, 0, none⟩), .int .u64 150] 108)).alloc (.cells #[.int .i64 n] 85))).setCell t (.int .i64 n) := by
  have h60 := @run_callFunc_extern Tryz.prog 60 _ ReflectliteType.typeOf Tryz.func60 (by kernel_rfl) (by kernel_rfl) (by kernel_rfl) (by kernel_rfl)
  have h150 := @run_callFunc_extern Tryz.prog 150 _ (ReflectliteType.relation "AssignableTo" ReflectliteType.assignableTo) Tryz.func150 (by kernel_rfl) (by kernel_rfl) (by kernel_rfl) (by kernel_rfl)
  have h86 := @run_callFunc_extern Tryz.prog 86 _ (ReflectliteValue.method (ReflectliteValue.valueError "reflectlite.Value.Elem" 0) ReflectliteValue.elem) Tryz.func86 (by kernel_rfl) (by kernel_rfl) (by kernel_rfl) (by kernel_rfl)
  have h66 := @run_callFunc_extern Tryz.prog 66 _ (fun args => ReflectliteValue.unpack (args.getD 0 (.tuple #[]))) Tryz.func66 (by kernel_rfl) (by kernel_rfl) (by kernel_rfl) (by kernel_rfl)
  have h87 := @run_callFunc_extern Tryz.prog 87 _ ReflectliteValue.set Tryz.func87 (by kernel_rfl) (by kernel_rfl) (by kernel_rfl) (by kernel_rfl)
  have tO := typeOf85
  have tO2 := typeOf80
  have mA := methodAssignableTo
  have a85 := assign8585
  have a80 := assign8085
  have n1 := no80_138
  have n2 := is80_129
  have mU := methodUnwrap
  have v85 := valueOf85
  have hel : eb < w.heap.size := by
    rcases Nat.lt_or_ge eb w.heap.size with h | h
    · exact h
    · simp [World.cell?, Array.getElem?_eq_none h] at he
  have hvl : vb < w.heap.size := by
    rcases Nat.lt_or_ge vb w.heap.size with h | h
    · exact h
    · simp [World.cell?, Array.getElem?_eq_none h] at hv
  have htl : t.block < w.heap.size := by
    rcases Nat.lt_or_ge t.block w.heap.size with h | h
    · exact h
    · simp [World.cell?, Array.getElem?_eq_none h] at ht0
  have he2 : (w.alloc (.cells #[.pointer (some ⟨4, 86, none⟩), .pointer (some ⟨vb, 0, none⟩), .int .u64 150] 108)).cell? ⟨eb, 1, none⟩ = some (.iface 85 (.int .i64 n)) := by rw [World.cell?_alloc_lt _ _ ⟨eb, 1, none⟩ hel]; exact he
  have el := elemV86 ⟨vb, 0, none⟩ t (w.alloc (.cells #[.pointer (some ⟨4, 86, none⟩), .pointer (some ⟨vb, 0, none⟩), .int .u64 150] 108)) (by rw [World.cell?_alloc_lt _ _ ⟨vb, 0, none⟩ hvl]; exact hv)
  have st := set85 t ⟨w.heap.size + 1, 0, none⟩ n old ((w.alloc (.cells #[.pointer (some ⟨4, 86, none⟩), .pointer (some ⟨vb, 0, none⟩), .int .u64 150] 108)).alloc (.cells #[.int .i64 n] 85))
    (by rw [World.cell?_alloc_at _ _ _ _ (by simp)]; rfl)
    (by rw [World.cell?_alloc_lt _ _ t (by simp; omega), World.cell?_alloc_lt _ _ t htl]; exact ht0)
    (by rw [World.frozen?_alloc_old _ _ t (by simp; omega), World.frozen?_alloc_old _ _ t (Nat.ne_of_lt htl)]; exact hf0)
  simp only [rt, vv]
  go_enter Tryz.func69, Tryz.ntmps69
  go_wp2
  refine wp_loop_rounds 2 ?_
  rw [rounds_succ]
  go_wp2
  rw [rounds_succ]
  go_wp2
  go_ret
  exact ⟨rfl, rfl⟩
end Go.Proofs.YtpkeiffclipjmaaGreatDoor.Er
namespace Go.Proofs.YtpkeiffclipjmaaGreatDoor.Er
open Go Go.RowKit Go.Extern.Stop Go.Stop Go.Extern

/-- What was there is there, but for one block. -/
structure Touch (T : Nat) (w w' : World) : Prop where
  os : w'.os = w.os
  tape : w'.tape = w.tape
  output : w'.output = w.output
  size : w.heap.size ≤ w'.heap.size
  block : ∀ k, k < w.heap.size → k ≠ T → w'.heap[k]? = w.heap[k]?
theorem Touch.of_set {T : Nat} {w W : World} (h : Below w.heap.size w W) {t : Addr} (ht : t.block = T) (v : Value) : Touch T w (W.setCell t v) := by
  subst ht
  refine ⟨h.os, h.tape, h.output, by simp only [World.setCell, Array.size_modify]; exact h.size, fun k hk hne => ?_⟩
  rw [← h.block k hk]
  simp only [World.setCell, Array.getElem?_modify]
  rw [if_neg (fun e => hne e.symm)]
theorem cell_lt {w : World} {a : Addr} {v : Value} (h : w.cell? a = some v) : a.block < w.heap.size := by
  rcases Nat.lt_or_ge a.block w.heap.size with h' | h'
  · exact h'
  · simp [World.cell?, Array.getElem?_eq_none h'] at h
theorem cell_set {w : World} {t : Addr} {old v : Value} (h : w.cell? t = some old) : (w.setCell t v).cell? t = some v := by
  unfold World.cell? at h
  split at h
  · rename_i c elem fz hb
    split at h
    · simp at h
    · rename_i hs
      have hlt := (Array.getElem?_eq_some_iff.1 h).1
      simp [World.cell?, World.setCell, Array.getElem?_modify, hb, hs, hlt]
  · simp at h
set_option maxHeartbeats 4000000 in
set_option maxRecDepth 100000 in
/-- One somewhere, asked as such. -/
theorem As_at_at (e : Addr) (t : Addr) (old : Value) (w : World) (hg : w.cell? ⟨0, 0, none⟩ = some (.iface 124 (.agg #[.pointer (some ⟨4, 65, none⟩)]))) (ht0 : w.cell? t = some old) (hf0 : w.frozen? t = false) :
    Calls Tryz.prog 51 #[.iface 80 (.pointer (some e)), .iface 82 (.pointer (some t))] w fun ev w' => ev = .returned (.bool true) ∧ Touch t.block w w' ∧ w'.cell? t = some (.pointer (some e)) := by
  have h66 := @run_callFunc_extern Tryz.prog 66 _ (fun args => ReflectliteValue.unpack (args.getD 0 (.tuple #[]))) Tryz.func66 (by kernel_rfl) (by kernel_rfl) (by kernel_rfl) (by kernel_rfl)
  have h67 := @run_callFunc_extern Tryz.prog 67 _ (ReflectliteValue.methodAny (ReflectliteValue.valueError "reflectlite.Value.Type" 0) (fun t _ _ _ => ReflectliteType.toType t)) Tryz.func67 (by kernel_rfl) (by kernel_rfl) (by kernel_rfl) (by kernel_rfl)
  have h68 := @run_callFunc_extern Tryz.prog 68 _ (ReflectliteValue.method (ReflectliteValue.valueError "reflectlite.Value.IsNil" 0) ReflectliteValue.isNil) Tryz.func68 (by kernel_rfl) (by kernel_rfl) (by kernel_rfl) (by kernel_rfl)
  have h140 := @run_callFunc_extern Tryz.prog 140 _ (ReflectliteType.abiMethod fun t => do pure (.int .u8 (← Rtype.kind t))) Tryz.func140 (by kernel_rfl) (by kernel_rfl) (by kernel_rfl) (by kernel_rfl)
  have h152 := @run_callFunc_extern Tryz.prog 152 _ (ReflectliteType.method ReflectliteType.elem) Tryz.func152 (by kernel_rfl) (by kernel_rfl) (by kernel_rfl) (by kernel_rfl)
  have h153 := @run_callFunc_extern Tryz.prog 153 _ (ReflectliteType.relation "Implements" ReflectliteType.implements_) Tryz.func153 (by kernel_rfl) (by kernel_rfl) (by kernel_rfl) (by kernel_rfl)
  have f66 := valueOf82
  have f67 := type82
  have mK := methodKind
  have mE := methodElem
  have mI := methodImplements
  have k1 := kind82
  have k2 := kind80
  have e1 := elem82
  have i1 := implements80
  have htl := cell_lt ht0
  have h0 := cell_lt hg
  simp only at h0
  have n68 := isNil82 ⟨w.heap.size, 0, none⟩ t ((w.alloc (.cells #[.pointer (some t)] 82)).alloc (.cells #[.pointer (some ⟨4, 82, none⟩), .pointer (some ⟨w.heap.size, 0, none⟩), .int .u64 150] 108)) (by simp)
  have hg2 : ((w.alloc (.cells #[.pointer (some t)] 82)).alloc (.cells #[.pointer (some ⟨4, 82, none⟩), .pointer (some ⟨w.heap.size, 0, none⟩), .int .u64 150] 108)).cell? ⟨0, 0, none⟩ = some (.iface 124 (.agg #[.pointer (some ⟨4, 65, none⟩)])) := by
    rw [World.cell?_alloc_lt _ _ ⟨0, 0, none⟩ (by simp), World.cell?_alloc_lt _ _ ⟨0, 0, none⟩ h0]; exact hg
  have hv2 : ((w.alloc (.cells #[.pointer (some t)] 82)).alloc (.cells #[.pointer (some ⟨4, 82, none⟩), .pointer (some ⟨w.heap.size, 0, none⟩), .int .u64 150] 108)).cell? ⟨w.heap.size, 0, none⟩ = some (.pointer (some t)) := by simp
  have ht2 : ((w.alloc (.cells #[.pointer (some t)] 82)).alloc (.cells #[.pointer (some ⟨4, 82, none⟩), .pointer (some ⟨w.heap.size, 0, none⟩), .int .u64 150] 108)).cell? t = some old := by
    rw [World.cell?_alloc_lt _ _ t (by simp; omega), World.cell?_alloc_lt _ _ t htl]; exact ht0
  have hf2 : ((w.alloc (.cells #[.pointer (some t)] 82)).alloc (.cells #[.pointer (some ⟨4, 82, none⟩), .pointer (some ⟨w.heap.size, 0, none⟩), .int .u64 150] 108)).frozen? t = false := by
    rw [World.frozen?_alloc_old _ _ t (by simp; omega), World.frozen?_alloc_old _ _ t (Nat.ne_of_lt htl)]; exact hf0
  have hc := as_at_at e t w.heap.size old ((w.alloc (.cells #[.pointer (some t)] 82)).alloc (.cells #[.pointer (some ⟨4, 82, none⟩), .pointer (some ⟨w.heap.size, 0, none⟩), .int .u64 150] 108)) hv2 ht2 hf2
  simp only [rt, vv] at hc
  have hB : Below w.heap.size w ((w.alloc (.cells #[.pointer (some t)] 82)).alloc (.cells #[.pointer (some ⟨4, 82, none⟩), .pointer (some ⟨w.heap.size, 0, none⟩), .int .u64 150] 108)) := ((Below.refl _ w).alloc (Nat.le_refl _) _).alloc (by simp) _
  go_enter Tryz.func51, Tryz.ntmps51
  go_wp2_with (go_at_call 69; refine hc.mono ?_; rintro e w' ⟨rfl, rfl⟩)
  go_ret
  refine ⟨rfl, Touch.of_set ((hB.alloc (by simp; omega) _).alloc (by simp; omega) _) rfl _, cell_set (old := old) ?_⟩
  rw [World.cell?_alloc_lt _ _ t (by simp; omega), World.cell?_alloc_lt _ _ t (by simp; omega)]
  exact ht2
set_option maxHeartbeats 4000000 in
set_option maxRecDepth 100000 in
/-- A number, asked as one somewhere. -/
theorem As_code_at (n : Int) (t : Addr) (old : Value) (w : World) (hg : w.cell? ⟨0, 0, none⟩ = some (.iface 124 (.agg #[.pointer (some ⟨4, 65, none⟩)]))) (ht0 : w.cell? t = some old) (hf0 : w.frozen? t = false) :
    Calls Tryz.prog 51 #[.iface 85 (.int .i64 n), .iface 82 (.pointer (some t))] w fun ev w' => ev = .returned (.bool false) ∧ Below w.heap.size w w' := by
  have h66 := @run_callFunc_extern Tryz.prog 66 _ (fun args => ReflectliteValue.unpack (args.getD 0 (.tuple #[]))) Tryz.func66 (by kernel_rfl) (by kernel_rfl) (by kernel_rfl) (by kernel_rfl)
  have h67 := @run_callFunc_extern Tryz.prog 67 _ (ReflectliteValue.methodAny (ReflectliteValue.valueError "reflectlite.Value.Type" 0) (fun t _ _ _ => ReflectliteType.toType t)) Tryz.func67 (by kernel_rfl) (by kernel_rfl) (by kernel_rfl) (by kernel_rfl)
  have h68 := @run_callFunc_extern Tryz.prog 68 _ (ReflectliteValue.method (ReflectliteValue.valueError "reflectlite.Value.IsNil" 0) ReflectliteValue.isNil) Tryz.func68 (by kernel_rfl) (by kernel_rfl) (by kernel_rfl) (by kernel_rfl)
  have h140 := @run_callFunc_extern Tryz.prog 140 _ (ReflectliteType.abiMethod fun t => do pure (.int .u8 (← Rtype.kind t))) Tryz.func140 (by kernel_rfl) (by kernel_rfl) (by kernel_rfl) (by kernel_rfl)
  have h152 := @run_callFunc_extern Tryz.prog 152 _ (ReflectliteType.method ReflectliteType.elem) Tryz.func152 (by kernel_rfl) (by kernel_rfl) (by kernel_rfl) (by kernel_rfl)
  have h153 := @run_callFunc_extern Tryz.prog 153 _ (ReflectliteType.relation "Implements" ReflectliteType.implements_) Tryz.func153 (by kernel_rfl) (by kernel_rfl) (by kernel_rfl) (by kernel_rfl)
  have f66 := valueOf82
  have f67 := type82
  have mK := methodKind
  have mE := methodElem
  have mI := methodImplements
  have k1 := kind82
  have k2 := kind80
  have e1 := elem82
  have i1 := implements80
  have htl := cell_lt ht0
  have h0 := cell_lt hg
  simp only at h0
  have n68 := isNil82 ⟨w.heap.size, 0, none⟩ t ((w.alloc (.cells #[.pointer (some t)] 82)).alloc (.cells #[.pointer (some ⟨4, 82, none⟩), .pointer (some ⟨w.heap.size, 0, none⟩), .int .u64 150] 108)) (by simp)
  have hg2 : ((w.alloc (.cells #[.pointer (some t)] 82)).alloc (.cells #[.pointer (some ⟨4, 82, none⟩), .pointer (some ⟨w.heap.size, 0, none⟩), .int .u64 150] 108)).cell? ⟨0, 0, none⟩ = some (.iface 124 (.agg #[.pointer (some ⟨4, 65, none⟩)])) := by
    rw [World.cell?_alloc_lt _ _ ⟨0, 0, none⟩ (by simp), World.cell?_alloc_lt _ _ ⟨0, 0, none⟩ h0]; exact hg
  have hv2 : ((w.alloc (.cells #[.pointer (some t)] 82)).alloc (.cells #[.pointer (some ⟨4, 82, none⟩), .pointer (some ⟨w.heap.size, 0, none⟩), .int .u64 150] 108)).cell? ⟨w.heap.size, 0, none⟩ = some (.pointer (some t)) := by simp
  have ht2 : ((w.alloc (.cells #[.pointer (some t)] 82)).alloc (.cells #[.pointer (some ⟨4, 82, none⟩), .pointer (some ⟨w.heap.size, 0, none⟩), .int .u64 150] 108)).cell? t = some old := by
    rw [World.cell?_alloc_lt _ _ t (by simp; omega), World.cell?_alloc_lt _ _ t htl]; exact ht0
  have hf2 : ((w.alloc (.cells #[.pointer (some t)] 82)).alloc (.cells #[.pointer (some ⟨4, 82, none⟩), .pointer (some ⟨w.heap.size, 0, none⟩), .int .u64 150] 108)).frozen? t = false := by
    rw [World.frozen?_alloc_old _ _ t (by simp; omega), World.frozen?_alloc_old _ _ t (Nat.ne_of_lt htl)]; exact hf0
  have hc := as_code_at n t w.heap.size ((w.alloc (.cells #[.pointer (some t)] 82)).alloc (.cells #[.pointer (some ⟨4, 82, none⟩), .pointer (some ⟨w.heap.size, 0, none⟩), .int .u64 150] 108))
  simp only [rt, vv] at hc
  have hB : Below w.heap.size w ((w.alloc (.cells #[.pointer (some t)] 82)).alloc (.cells #[.pointer (some ⟨4, 82, none⟩), .pointer (some ⟨w.heap.size, 0, none⟩), .int .u64 150] 108)) := ((Below.refl _ w).alloc (Nat.le_refl _) _).alloc (by simp) _
  go_enter Tryz.func51, Tryz.ntmps51
  go_wp2_with (go_at_call 69; refine hc.mono ?_; rintro e w' ⟨rfl, rfl⟩)
  go_ret
  exact ⟨rfl, hB.alloc (by simp; omega) _⟩
set_option maxHeartbeats 4000000 in
set_option maxRecDepth 100000 in
/-- A number, asked as such. -/
theorem As_code_code (n : Int) (t : Addr) (old : Value) (w : World) (hg : w.cell? ⟨0, 0, none⟩ = some (.iface 124 (.agg #[.pointer (some ⟨4, 65, none⟩)]))) (ht0 : w.cell? t = some old) (hf0 : w.frozen? t = false) :
    Calls Tryz.prog 51 #[.iface 85 (.int .i64 n), .iface 86 (.pointer (some t))] w fun ev w' => ev = .returned (.bool true) ∧ Touch t.block w w' ∧ w'.cell? t = some (.int .i64 n) := by
  have h66 := @run_callFunc_extern Tryz.prog 66 _ (fun args => ReflectliteValue.unpack (args.getD 0 (.tuple #[]))) Tryz.func66 (by kernel_rfl) (by kernel_rfl) (by kernel_rfl) (by kernel_rfl)
  have h67 := @run_callFunc_extern Tryz.prog 67 _ (ReflectliteValue.methodAny (ReflectliteValue.valueError "reflectlite.Value.Type" 0) (fun t _ _ _ => ReflectliteType.toType t)) Tryz.func67 (by kernel_rfl) (by kernel_rfl) (by kernel_rfl) (by kernel_rfl)
  have h68 := @run_callFunc_extern Tryz.prog 68 _ (ReflectliteValue.method (ReflectliteValue.valueError "reflectlite.Value.IsNil" 0) ReflectliteValue.isNil) Tryz.func68 (by kernel_rfl) (by kernel_rfl) (by kernel_rfl) (by kernel_rfl)
  have h140 := @run_callFunc_extern Tryz.prog 140 _ (ReflectliteType.abiMethod fun t => do pure (.int .u8 (← Rtype.kind t))) Tryz.func140 (by kernel_rfl) (by kernel_rfl) (by kernel_rfl) (by kernel_rfl)
  have h152 := @run_callFunc_extern Tryz.prog 152 _ (ReflectliteType.method ReflectliteType.elem) Tryz.func152 (by kernel_rfl) (by kernel_rfl) (by kernel_rfl) (by kernel_rfl)
  have h153 := @run_callFunc_extern Tryz.prog 153 _ (ReflectliteType.relation "Implements" ReflectliteType.implements_) Tryz.func153 (by kernel_rfl) (by kernel_rfl) (by kernel_rfl) (by kernel_rfl)
  have f66 := valueOf86
  have f67 := type86
  have mK := methodKind
  have mE := methodElem
  have mI := methodImplements
  have k1 := kind86
  have k2 := kind85
  have e1 := elem86
  have i1 := implements85
  have htl := cell_lt ht0
  have h0 := cell_lt hg
  simp only at h0
  have n68 := isNil86 ⟨w.heap.size, 0, none⟩ t ((w.alloc (.cells #[.pointer (some t)] 86)).alloc (.cells #[.pointer (some ⟨4, 86, none⟩), .pointer (some ⟨w.heap.size, 0, none⟩), .int .u64 150] 108)) (by simp)
  have hg2 : ((w.alloc (.cells #[.pointer (some t)] 86)).alloc (.cells #[.pointer (some ⟨4, 86, none⟩), .pointer (some ⟨w.heap.size, 0, none⟩), .int .u64 150] 108)).cell? ⟨0, 0, none⟩ = some (.iface 124 (.agg #[.pointer (some ⟨4, 65, none⟩)])) := by
    rw [World.cell?_alloc_lt _ _ ⟨0, 0, none⟩ (by simp), World.cell?_alloc_lt _ _ ⟨0, 0, none⟩ h0]; exact hg
  have hv2 : ((w.alloc (.cells #[.pointer (some t)] 86)).alloc (.cells #[.pointer (some ⟨4, 86, none⟩), .pointer (some ⟨w.heap.size, 0, none⟩), .int .u64 150] 108)).cell? ⟨w.heap.size, 0, none⟩ = some (.pointer (some t)) := by simp
  have ht2 : ((w.alloc (.cells #[.pointer (some t)] 86)).alloc (.cells #[.pointer (some ⟨4, 86, none⟩), .pointer (some ⟨w.heap.size, 0, none⟩), .int .u64 150] 108)).cell? t = some old := by
    rw [World.cell?_alloc_lt _ _ t (by simp; omega), World.cell?_alloc_lt _ _ t htl]; exact ht0
  have hf2 : ((w.alloc (.cells #[.pointer (some t)] 86)).alloc (.cells #[.pointer (some ⟨4, 86, none⟩), .pointer (some ⟨w.heap.size, 0, none⟩), .int .u64 150] 108)).frozen? t = false := by
    rw [World.frozen?_alloc_old _ _ t (by simp; omega), World.frozen?_alloc_old _ _ t (Nat.ne_of_lt htl)]; exact hf0
  have hc := as_code_code n t w.heap.size old ((w.alloc (.cells #[.pointer (some t)] 86)).alloc (.cells #[.pointer (some ⟨4, 86, none⟩), .pointer (some ⟨w.heap.size, 0, none⟩), .int .u64 150] 108)) hv2 ht2 hf2
  simp only [rt, vv] at hc
  have hB : Below w.heap.size w ((w.alloc (.cells #[.pointer (some t)] 86)).alloc (.cells #[.pointer (some ⟨4, 86, none⟩), .pointer (some ⟨w.heap.size, 0, none⟩), .int .u64 150] 108)) := ((Below.refl _ w).alloc (Nat.le_refl _) _).alloc (by simp) _
  go_enter Tryz.func51, Tryz.ntmps51
  go_wp2_with (go_at_call 69; refine hc.mono ?_; rintro e w' ⟨rfl, rfl⟩)
  go_ret
  refine ⟨rfl, Touch.of_set ((hB.alloc (by simp; omega) _).alloc (by simp; omega) _) rfl _, cell_set (old := old) ?_⟩
  rw [World.cell?_alloc_lt _ _ t (by simp; omega), World.cell?_alloc_lt _ _ t (by simp; omega)]
  exact ht2
set_option maxHeartbeats 4000000 in
set_option maxRecDepth 100000 in
/-- One somewhere, asked as a number: what it wraps. -/
theorem As_at_code (n : Int) (eb : Nat) (t : Addr) (old : Value) (w : World) (hg : w.cell? ⟨0, 0, none⟩ = some (.iface 124 (.agg #[.pointer (some ⟨4, 65, none⟩)]))) (ht0 : w.cell? t = some old) (hf0 : w.frozen? t = false) (he : w.cell? ⟨eb, 1, none⟩ = some (.iface 85 (.int .i64 n))) :
    Calls Tryz.prog 51 #[.iface 80 (.pointer (some ⟨eb, 0, none⟩)), .iface 86 (.pointer (some t))] w fun ev w' => ev = .returned (.bool true) ∧ Touch t.block w w' ∧ w'.cell? t = some (.int .i64 n) := by
  have h66 := @run_callFunc_extern Tryz.prog 66 _ (fun args => ReflectliteValue.unpack (args.getD 0 (.tuple #[]))) Tryz.func66 (by kernel_rfl) (by kernel_rfl) (by kernel_rfl) (by kernel_rfl)
  have h67 := @run_callFunc_extern Tryz.prog 67 _ (ReflectliteValue.methodAny (ReflectliteValue.valueError "reflectlite.Value.Type" 0) (fun t _ _ _ => ReflectliteType.toType t)) Tryz.func67 (by kernel_rfl) (by kernel_rfl) (by kernel_rfl) (by kernel_rfl)
  have h68 := @run_callFunc_extern Tryz.prog 68 _ (ReflectliteValue.method (ReflectliteValue.valueError "reflectlite.Value.IsNil" 0) ReflectliteValue.isNil) Tryz.func68 (by kernel_rfl) (by kernel_rfl) (by kernel_rfl) (by kernel_rfl)
  have h140 := @run_callFunc_extern Tryz.prog 140 _ (ReflectliteType.abiMethod fun t => do pure (.int .u8 (← Rtype.kind t))) Tryz.func140 (by kernel_rfl) (by kernel_rfl) (by kernel_rfl) (by kernel_rfl)
  have h152 := @run_callFunc_extern Tryz.prog 152 _ (ReflectliteType.method ReflectliteType.elem) Tryz.func152 (by kernel_rfl) (by kernel_rfl) (by kernel_rfl) (by kernel_rfl)
  have h153 := @run_callFunc_extern Tryz.prog 153 _ (ReflectliteType.relation "Implements" ReflectliteType.implements_) Tryz.func153 (by kernel_rfl) (by kernel_rfl) (by kernel_rfl) (by kernel_rfl)
  have f66 := valueOf86
  have f67 := type86
  have mK := methodKind
  have mE := methodElem
  have mI := methodImplements
  have k1 := kind86
  have k2 := kind85
  have e1 := elem86
  have i1 := implements85
  have htl := cell_lt ht0
  have h0 := cell_lt hg
  simp only at h0
  have n68 := isNil86 ⟨w.heap.size, 0, none⟩ t ((w.alloc (.cells #[.pointer (some t)] 86)).alloc (.cells #[.pointer (some ⟨4, 86, none⟩), .pointer (some ⟨w.heap.size, 0, none⟩), .int .u64 150] 108)) (by simp)
  have hg2 : ((w.alloc (.cells #[.pointer (some t)] 86)).alloc (.cells #[.pointer (some ⟨4, 86, none⟩), .pointer (some ⟨w.heap.size, 0, none⟩), .int .u64 150] 108)).cell? ⟨0, 0, none⟩ = some (.iface 124 (.agg #[.pointer (some ⟨4, 65, none⟩)])) := by
    rw [World.cell?_alloc_lt _ _ ⟨0, 0, none⟩ (by simp), World.cell?_alloc_lt _ _ ⟨0, 0, none⟩ h0]; exact hg
  have hv2 : ((w.alloc (.cells #[.pointer (some t)] 86)).alloc (.cells #[.pointer (some ⟨4, 86, none⟩), .pointer (some ⟨w.heap.size, 0, none⟩), .int .u64 150] 108)).cell? ⟨w.heap.size, 0, none⟩ = some (.pointer (some t)) := by simp
  have ht2 : ((w.alloc (.cells #[.pointer (some t)] 86)).alloc (.cells #[.pointer (some ⟨4, 86, none⟩), .pointer (some ⟨w.heap.size, 0, none⟩), .int .u64 150] 108)).cell? t = some old := by
    rw [World.cell?_alloc_lt _ _ t (by simp; omega), World.cell?_alloc_lt _ _ t htl]; exact ht0
  have hf2 : ((w.alloc (.cells #[.pointer (some t)] 86)).alloc (.cells #[.pointer (some ⟨4, 86, none⟩), .pointer (some ⟨w.heap.size, 0, none⟩), .int .u64 150] 108)).frozen? t = false := by
    rw [World.frozen?_alloc_old _ _ t (by simp; omega), World.frozen?_alloc_old _ _ t (Nat.ne_of_lt htl)]; exact hf0
  have hel := cell_lt he
  simp only at hel
  have he2 : ((w.alloc (.cells #[.pointer (some t)] 86)).alloc (.cells #[.pointer (some ⟨4, 86, none⟩), .pointer (some ⟨w.heap.size, 0, none⟩), .int .u64 150] 108)).cell? ⟨eb, 1, none⟩ = some (.iface 85 (.int .i64 n)) := by
    rw [World.cell?_alloc_lt _ _ ⟨eb, 1, none⟩ (by simp; omega), World.cell?_alloc_lt _ _ ⟨eb, 1, none⟩ hel]; exact he
  have hc := as_at_code n eb t w.heap.size old ((w.alloc (.cells #[.pointer (some t)] 86)).alloc (.cells #[.pointer (some ⟨4, 86, none⟩), .pointer (some ⟨w.heap.size, 0, none⟩), .int .u64 150] 108)) he2 hv2 ht2 hf2
  simp only [rt, vv] at hc
  have hB : Below w.heap.size w ((w.alloc (.cells #[.pointer (some t)] 86)).alloc (.cells #[.pointer (some ⟨4, 86, none⟩), .pointer (some ⟨w.heap.size, 0, none⟩), .int .u64 150] 108)) := ((Below.refl _ w).alloc (Nat.le_refl _) _).alloc (by simp) _
  go_enter Tryz.func51, Tryz.ntmps51
  go_wp2_with (go_at_call 69; refine hc.mono ?_; rintro e w' ⟨rfl, rfl⟩)
  go_ret
  refine ⟨rfl, Touch.of_set ((hB.alloc (by simp; omega) _).alloc (by simp; omega) _) rfl _, cell_set (old := old) ?_⟩
  rw [World.cell?_alloc_lt _ _ t (by simp; omega), World.cell?_alloc_lt _ _ t (by simp; omega)]
  exact ht2
end Go.Proofs.YtpkeiffclipjmaaGreatDoor.Er
namespace Go.Proofs.YtpkeiffclipjmaaGreatDoor.Er
open Go Go.RowKit Go.Extern.Stop Go.Stop Go.Extern

theorem wrong_ (n : Int) (w : World) : Calls Tryz.prog 44 #[.int .i64 n] w fun e w' => e = .returned (.iface 85 (.int .i64 n)) ∧ w' = w := by
  go_enter Tryz.func44, Tryz.ntmps44
  go_wp2
  go_ret
  exact ⟨rfl, rfl⟩
theorem hOld (w : World) (o : Obj) {i : Nat} (h : i < w.heap.size) : (w.alloc o).heap[i]? = w.heap[i]? := by
  show (w.heap.push o)[i]? = w.heap[i]?
  rw [Array.getElem?_push, if_neg (Nat.ne_of_lt h)]
theorem hNew (w : World) (o : Obj) {i : Nat} (h : i = w.heap.size) : (w.alloc o).heap[i]? = some o := by
  subst h
  show (w.heap.push o)[w.heap.size]? = some o
  simp
theorem heap_set {w : World} {b : Nat} {c : Array Value} {T : TypeId} {z : Nat × Nat} (h : w.heap[b]? = some (.cells c T z)) (o : Nat) (v : Value) : (w.setCell ⟨b, o, none⟩ v).heap[b]? = some (.cells (c.setIfInBounds o v) T z) := by
  simp [World.setCell, Array.getElem?_modify, h]
theorem cell_heap {w : World} {b : Nat} {c : Array Value} {T : TypeId} {z : Nat × Nat} (h : w.heap[b]? = some (.cells c T z)) (o : Nat) : w.cell? ⟨b, o, none⟩ = c[o]? := by
  simp [World.cell?, h]
theorem frozen_heap {w : World} {b : Nat} {c : Array Value} {T : TypeId} (h : w.heap[b]? = some (.cells c T (0, 0))) (o : Nat) : w.frozen? ⟨b, o, none⟩ = false := by
  simp [World.frozen?, h]
theorem told_nil (w : World) : Calls Tryz.prog 33 #[.nilIface] w fun e w' => e = .returned (.agg #[.string .empty, .int .i64 0]) ∧ Below w.heap.size w w' := by
  have hc := fun t W => as_nil t W
  go_enter Tryz.func33, Tryz.ntmps33
  go_wp2_with (go_at_call 51; refine (hc _ _).mono ?_; rintro e w' ⟨rfl, rfl⟩)
  have hh : (((w.alloc (.cells #[.string ⟨#[]⟩, .int .i64 0] 35)).alloc (.cells #[.pointer none] 80)).alloc (.cells #[.int .i64 0] 85)).heap[w.heap.size]? = some (.cells #[.string ⟨#[]⟩, .int .i64 0] 35 (0, 0)) := by
    rw [hOld _ _ (by simp; omega), hOld _ _ (by simp), hNew _ _ rfl]
  refine bodyPost_ret (results_cell_row rfl _ _ w.heap.size 35 _ (0, 0) _ rfl hh Tryz.underlying35 rfl (by kernel_rfl)) rfl ?_
  exact ⟨rfl, (((Below.refl _ w).alloc (Nat.le_refl _) _).alloc (by simp) _).alloc (by simp; omega) _⟩
abbrev EgW (w : World) : Prop := w.cell? ⟨0, 0, none⟩ = some (.iface 124 (.agg #[.pointer (some ⟨4, 65, none⟩)]))
theorem EgW.lt {w : World} (h : EgW w) : 0 < w.heap.size := cell_lt h
theorem EgW.below {w w' : World} (h : EgW w) (hb : Below w.heap.size w w') : EgW w' := (hb.cell (p := ⟨0, 0, none⟩) h.lt).trans h
theorem EgW.alloc {w : World} (h : EgW w) (o : Obj) : EgW (w.alloc o) := by
  have := h.lt
  unfold EgW at h ⊢
  rw [World.cell?_alloc_lt _ _ ⟨0, 0, none⟩ this]
  exact h
theorem fresh_cell (W : World) (v : Value) (T : TypeId) : (W.alloc (.cells #[v] T)).cell? ⟨W.heap.size, 0, none⟩ = some v := by rw [cell_heap (hNew W _ rfl)]; rfl
theorem fresh_frozen (W : World) (v : Value) (T : TypeId) : (W.alloc (.cells #[v] T)).frozen? ⟨W.heap.size, 0, none⟩ = false := frozen_heap (hNew W _ rfl) 0
theorem touch_fresh {W w' : World} {o : Obj} (h : Touch W.heap.size (W.alloc o) w') : Below W.heap.size W w' ∧ W.heap.size < w'.heap.size := by
  have hs : (W.alloc o).heap.size = W.heap.size + 1 := by simp
  have h1 := h.size
  refine ⟨⟨h.os, h.tape, h.output, by omega, fun k hk => ?_⟩, by omega⟩
  rw [h.block k (by omega) (by omega), hOld W o hk]
theorem below_fresh {W w' : World} {o : Obj} (h : Below (W.alloc o).heap.size (W.alloc o) w') : Below W.heap.size W w' ∧ W.heap.size < w'.heap.size := by
  have hs : (W.alloc o).heap.size = W.heap.size + 1 := by simp
  have h1 := h.size
  refine ⟨⟨h.os, h.tape, h.output, by omega, fun k hk => ?_⟩, by omega⟩
  rw [h.block k (by omega), hOld W o hk]
/-- A new variable is asked for. -/
theorem new_code (n : Int) (W : World) (hg : EgW W) : Calls Tryz.prog 51 #[.iface 85 (.int .i64 n), .iface 86 (.pointer (some ⟨W.heap.size, 0, none⟩))] (W.alloc (.cells #[.int .i64 0] 85)) fun ev w' => ev = .returned (.bool true) ∧ (Below W.heap.size W w' ∧ W.heap.size < w'.heap.size) ∧ w'.cell? ⟨W.heap.size, 0, none⟩ = some (.int .i64 n) :=
  (As_code_code n ⟨W.heap.size, 0, none⟩ (.int .i64 0) _ (hg.alloc _) (fresh_cell W _ _) (fresh_frozen W _ _)).mono fun _ _ ⟨h1, h2, h3⟩ => ⟨h1, touch_fresh h2, h3⟩
theorem new_at_code (n : Int) (eb : Nat) (W : World) (hg : EgW W) (he : W.cell? ⟨eb, 1, none⟩ = some (.iface 85 (.int .i64 n))) : Calls Tryz.prog 51 #[.iface 80 (.pointer (some ⟨eb, 0, none⟩)), .iface 86 (.pointer (some ⟨W.heap.size, 0, none⟩))] (W.alloc (.cells #[.int .i64 0] 85)) fun ev w' => ev = .returned (.bool true) ∧ (Below W.heap.size W w' ∧ W.heap.size < w'.heap.size) ∧ w'.cell? ⟨W.heap.size, 0, none⟩ = some (.int .i64 n) :=
  (As_at_code n eb ⟨W.heap.size, 0, none⟩ (.int .i64 0) _ (hg.alloc _) (fresh_cell W _ _) (fresh_frozen W _ _) (by have := cell_lt he; rw [World.cell?_alloc_lt _ _ ⟨eb, 1, none⟩ this]; exact he)).mono fun _ _ ⟨h1, h2, h3⟩ => ⟨h1, touch_fresh h2, h3⟩
theorem new_at (e : Addr) (W : World) (hg : EgW W) : Calls Tryz.prog 51 #[.iface 80 (.pointer (some e)), .iface 82 (.pointer (some ⟨W.heap.size, 0, none⟩))] (W.alloc (.cells #[.pointer none] 80)) fun ev w' => ev = .returned (.bool true) ∧ (Below W.heap.size W w' ∧ W.heap.size < w'.heap.size) ∧ w'.cell? ⟨W.heap.size, 0, none⟩ = some (.pointer (some e)) :=
  (As_at_at e ⟨W.heap.size, 0, none⟩ (.pointer none) _ (hg.alloc _) (fresh_cell W _ _) (fresh_frozen W _ _)).mono fun _ _ ⟨h1, h2, h3⟩ => ⟨h1, touch_fresh h2, h3⟩
theorem new_code_at (n : Int) (W : World) (hg : EgW W) : Calls Tryz.prog 51 #[.iface 85 (.int .i64 n), .iface 82 (.pointer (some ⟨W.heap.size, 0, none⟩))] (W.alloc (.cells #[.pointer none] 80)) fun ev w' => ev = .returned (.bool false) ∧ (Below W.heap.size W w' ∧ W.heap.size < w'.heap.size) :=
  (As_code_at n ⟨W.heap.size, 0, none⟩ (.pointer none) _ (hg.alloc _) (fresh_cell W _ _) (fresh_frozen W _ _)).mono fun _ _ ⟨h1, h2⟩ => ⟨h1, below_fresh h2⟩
set_option maxHeartbeats 4000000 in
set_option maxRecDepth 100000 in
theorem told_code (n : Int) (w : World) (hg : EgW w) : Calls Tryz.prog 33 #[.iface 85 (.int .i64 n)] w fun e w' => e = .returned (.agg #[.string .empty, .int .i64 n]) ∧ Below w.heap.size w w' := by
  have hW : w.heap.size + 1 = (w.alloc (.cells #[.string ⟨#[]⟩, .int .i64 0] 35)).heap.size := by simp
  have c1 := new_code_at n (w.alloc (.cells #[.string ⟨#[]⟩, .int .i64 0] 35)) (hg.alloc _)
  rw [← hW] at c1
  have c2 := fun W hg => new_code n W hg
  clear hW
  have HG : Hid (EgW w) := hg
  clear hg
  go_enter Tryz.func33, Tryz.ntmps33
  go_wp2_with (go_at_call 51; first
    | (refine c1.mono ?_
       rintro e w1 ⟨rfl, hb1, hs1⟩
       have B1 : Hid (Below (w.heap.size + 1) (w.alloc (.cells #[.string ⟨#[]⟩, .int .i64 0] 35)) w1) := hb1
       have S1 : Hid (w.heap.size + 1 < w1.heap.size) := hs1
       clear hb1 hs1 c1)
    | (refine (c2 _ ((HG.out.alloc _).below (B1.out.mono (by simp)))).mono ?_
       rintro e w3 ⟨rfl, ⟨hb3, hs3⟩, hc3⟩
       have B3 : Hid (Below w1.heap.size w1 w3) := hb3
       have S3 : Hid (w1.heap.size < w3.heap.size) := hs3
       have h3 : w3.heap[w.heap.size]? = some (.cells #[.string ⟨#[]⟩, .int .i64 0] 35 (0, 0)) := by
         have := S1.out
         rw [hb3.block _ (by omega), B1.out.block _ (by omega)]
         exact hNew w _ rfl
       have H3 : Hid (w3.heap[w.heap.size]? = some (.cells #[.string ⟨#[]⟩, .int .i64 0] 35 (0, 0))) := h3
       have k0 := cell_heap h3 0
       have k1 := cell_heap h3 1
       have z0 := frozen_heap h3 0
       have z1 := frozen_heap h3 1
       simp only [List.getElem?_toArray, List.getElem?_cons_zero, List.getElem?_cons_succ] at k0 k1
       clear hb3 hs3 c2 h3))
  have hh : (((w3.setCell ⟨w.heap.size, 1, none⟩ (.int .i64 n)).setCell ⟨w.heap.size, 0, none⟩ (.string ⟨#[]⟩)).setCell ⟨w.heap.size, 1, none⟩ (.int .i64 n)).heap[w.heap.size]? = some (.cells #[.string ⟨#[]⟩, .int .i64 n] 35 (0, 0)) := heap_set (heap_set (heap_set H3.out 1 _) 0 _) 1 _
  refine bodyPost_ret (results_cell_row rfl _ _ w.heap.size 35 _ (0, 0) _ rfl hh Tryz.underlying35 rfl (by kernel_rfl)) rfl ?_
  have hb : Below w.heap.size w w3 := (((Below.refl _ w).alloc (Nat.le_refl _) (.cells #[.string ⟨#[]⟩, .int .i64 0] 35)).trans (B1.out.mono (by omega))).trans (B3.out.mono (by have := S1.out; omega))
  exact ⟨rfl, ((hb.setCell (Nat.le_refl _) _).setCell (Nat.le_refl _) _).setCell (Nat.le_refl _) _⟩
set_option maxHeartbeats 4000000 in
set_option maxRecDepth 100000 in
theorem told_at (p : ByteArray) (n : Int) (eb : Nat) (w : World) (hg : EgW w) (h1 : w.cell? ⟨eb, 0, none⟩ = some (.string p)) (h2 : w.cell? ⟨eb, 1, none⟩ = some (.iface 85 (.int .i64 n))) : Calls Tryz.prog 33 #[.iface 80 (.pointer (some ⟨eb, 0, none⟩))] w fun e w' => e = .returned (.agg #[.string p, .int .i64 n]) ∧ Below w.heap.size w w' := by
  have hel := cell_lt h1
  simp only at hel
  have hW : w.heap.size + 1 = (w.alloc (.cells #[.string ⟨#[]⟩, .int .i64 0] 35)).heap.size := by simp
  have c1 := new_at ⟨eb, 0, none⟩ (w.alloc (.cells #[.string ⟨#[]⟩, .int .i64 0] 35)) (hg.alloc _)
  rw [← hW] at c1
  have c2 := fun W hg he => new_at_code n eb W hg he
  clear hW
  have HG : Hid (EgW w) := hg
  have P1 : Hid (w.cell? ⟨eb, 0, none⟩ = some (.string p)) := h1
  have P2 : Hid (w.cell? ⟨eb, 1, none⟩ = some (.iface 85 (.int .i64 n))) := h2
  have HL : Hid (eb < w.heap.size) := hel
  clear hg h1 h2 hel
  have hone : Below w.heap.size w (w.alloc (.cells #[.string ⟨#[]⟩, .int .i64 0] 35)) := (Below.refl _ w).alloc (Nat.le_refl _) _
  have ONE : Hid (Below w.heap.size w (w.alloc (.cells #[.string ⟨#[]⟩, .int .i64 0] 35))) := hone
  clear hone
  go_enter Tryz.func33, Tryz.ntmps33
  go_wp2_with (go_at_call 51; first
    | (refine c1.mono ?_
       rintro e w1 ⟨rfl, ⟨hb1, hs1⟩, ha1⟩
       have B1 : Hid (Below (w.heap.size + 1) (w.alloc (.cells #[.string ⟨#[]⟩, .int .i64 0] 35)) w1) := hb1
       have S1 : Hid (w.heap.size + 1 < w1.heap.size) := hs1
       have hbw : Below w.heap.size w w1 := ONE.out.trans (hb1.mono (by omega))
       have q0 : w1.cell? ⟨eb, 0, none⟩ = some (.string p) := (hbw.cell (p := ⟨eb, 0, none⟩) HL.out).trans P1.out
       have h3 : w1.heap[w.heap.size]? = some (.cells #[.string ⟨#[]⟩, .int .i64 0] 35 (0, 0)) := by
         rw [hb1.block _ (by omega)]
         exact hNew w _ rfl
       have H3 : Hid (w1.heap[w.heap.size]? = some (.cells #[.string ⟨#[]⟩, .int .i64 0] 35 (0, 0))) := h3
       have BW : Hid (Below w.heap.size w w1) := hbw
       have k0 := cell_heap h3 0
       have k1 := cell_heap h3 1
       have z0 := frozen_heap h3 0
       have z1 := frozen_heap h3 1
       simp only [List.getElem?_toArray, List.getElem?_cons_zero, List.getElem?_cons_succ] at k0 k1
       clear hb1 hs1 c1 h3 hbw)
    | (have BS : Below w.heap.size w (w1.setCell ⟨w.heap.size, 0, none⟩ (.string p)) := BW.out.setCell (Nat.le_refl _) _
       have hsz : (w1.setCell ⟨w.heap.size, 0, none⟩ (.string p)).heap.size = w1.heap.size := by simp [World.setCell]
       have hc := c2 (w1.setCell ⟨w.heap.size, 0, none⟩ (.string p)) (HG.out.below BS) ((BS.cell (p := ⟨eb, 1, none⟩) HL.out).trans P2.out)
       rw [hsz] at hc
       refine hc.mono ?_
       rintro e w3 ⟨rfl, ⟨hb3, hs3⟩, hc3⟩
       have BW3 : Hid (Below w.heap.size w w3) := BS.trans (hb3.mono (by have := S1.out; omega))
       have h3 : w3.heap[w.heap.size]? = some (.cells #[.string p, .int .i64 0] 35 (0, 0)) := by
         have := S1.out
         rw [hb3.block _ (by omega)]
         exact heap_set H3.out 0 _
       have H3' : Hid (w3.heap[w.heap.size]? = some (.cells #[.string p, .int .i64 0] 35 (0, 0))) := h3
       clear k0 k1 z0 z1
       have k0 := cell_heap h3 0
       have k1 := cell_heap h3 1
       have z0 := frozen_heap h3 0
       have z1 := frozen_heap h3 1
       simp only [List.getElem?_toArray, List.getElem?_cons_zero, List.getElem?_cons_succ] at k0 k1
       clear hb3 hs3 c2 h3 BS hsz hc))
  have hh : (((w3.setCell ⟨w.heap.size, 1, none⟩ (.int .i64 n)).setCell ⟨w.heap.size, 0, none⟩ (.string p)).setCell ⟨w.heap.size, 1, none⟩ (.int .i64 n)).heap[w.heap.size]? = some (.cells #[.string p, .int .i64 n] 35 (0, 0)) := heap_set (heap_set (heap_set H3'.out 1 _) 0 _) 1 _
  refine bodyPost_ret (results_cell_row rfl _ _ w.heap.size 35 _ (0, 0) _ rfl hh Tryz.underlying35 rfl (by kernel_rfl)) rfl ?_
  exact ⟨rfl, ((BW3.out.setCell (Nat.le_refl _) _).setCell (Nat.le_refl _) _).setCell (Nat.le_refl _) _⟩
end Go.Proofs.YtpkeiffclipjmaaGreatDoor.Er
namespace Go.Proofs.YtpkeiffclipjmaaGreatDoor.Er
open Go Go.RowKit Go.Extern.Stop Go.Stop Go.Extern

theorem methodComparable (h : Value) (w : World) : (Go.method 302 124 (.agg #[h]) "Comparable").run Tryz.prog w = .ok (151, .agg #[h]) w := by kernel_rfl
theorem comparable85 (w : World) : (ReflectliteType.method (fun t => do
    Rtype.noPackHeld "Comparable" t
    (fun a => Value.bool a.comparable) <$> typeInfo t) #[.agg #[.pointer (some ⟨4, 85, none⟩)]]).run Tryz.prog w = .ok (.bool true) w := by kernel_rfl
theorem eq_nil85 (m : Int) (w : World) : (binOp .eql 65 .nilIface (.iface 85 (.int .i64 m))).run Tryz.prog w = .ok (.bool false) w := by kernel_rfl
theorem eq_8085 (a : Option Addr) (m : Int) (w : World) : (binOp .eql 65 (.iface 80 (.pointer a)) (.iface 85 (.int .i64 m))).run Tryz.prog w = .ok (.bool false) w := by kernel_rfl
theorem eq_8585 (n m : Int) (w : World) : (binOp .eql 65 (.iface 85 (.int .i64 n)) (.iface 85 (.int .i64 m))).run Tryz.prog w = .ok (.bool (n == m)) w := by kernel_rfl
set_option maxHeartbeats 4000000 in
set_option maxRecDepth 100000 in
theorem Is_nil (m : Int) (w : World) : Calls Tryz.prog 43 #[.nilIface, .iface 85 (.int .i64 m)] w fun e w' => e = .returned (.bool false) ∧ w' = w := by
  have e1 := eq_nil85
  go_enter Tryz.func43, Tryz.ntmps43
  go_wp2
  go_ret
  exact ⟨rfl, rfl⟩
set_option maxHeartbeats 4000000 in
set_option maxRecDepth 100000 in
theorem is_at (eb : Nat) (n m : Int) (w : World) (he : w.cell? ⟨eb, 1, none⟩ = some (.iface 85 (.int .i64 n))) : Calls Tryz.prog 61 #[.iface 80 (.pointer (some ⟨eb, 0, none⟩)), .iface 85 (.int .i64 m), .bool true] w fun e w' => e = .returned (.bool (n == m)) ∧ w' = w := by
  have n1 := no80_126
  have n2 := is80_129
  have n3 := no85_126
  have n4 := no85_129
  have n5 := no85_131
  have mU := methodUnwrap
  have e1 := eq_8085
  have e2 := eq_8585
  go_enter Tryz.func61, Tryz.ntmps61
  go_wp2
  refine wp_loop_rounds 2 ?_
  rw [rounds_succ]
  go_wp2
  rw [rounds_succ]
  go_wp2
  all_goals (go_ret; exact ⟨by simp_all, rfl⟩)
set_option maxHeartbeats 4000000 in
set_option maxRecDepth 100000 in
theorem Is_at (eb : Nat) (n m : Int) (w : World) (he : w.cell? ⟨eb, 1, none⟩ = some (.iface 85 (.int .i64 n))) : Calls Tryz.prog 43 #[.iface 80 (.pointer (some ⟨eb, 0, none⟩)), .iface 85 (.int .i64 m)] w fun e w' => e = .returned (.bool (n == m)) ∧ w' = w := by
  have h60 := @run_callFunc_extern Tryz.prog 60 _ ReflectliteType.typeOf Tryz.func60 (by kernel_rfl) (by kernel_rfl) (by kernel_rfl) (by kernel_rfl)
  have h151 := @run_callFunc_extern Tryz.prog 151 _ (ReflectliteType.method (fun t => do Rtype.noPackHeld "Comparable" t; pure (.bool (← typeInfo t).comparable))) Tryz.func151 (by kernel_rfl) (by kernel_rfl) (by kernel_rfl) (by kernel_rfl)
  have tO := typeOf85
  have mC := methodComparable
  have c85 := comparable85
  have hc := is_at eb n m w he
  clear he
  go_enter Tryz.func43, Tryz.ntmps43
  go_wp2_with (go_at_call 61; refine hc.mono ?_; rintro e w' ⟨rfl, rfl⟩)
  go_ret
  exact ⟨rfl, rfl⟩
end Go.Proofs.YtpkeiffclipjmaaGreatDoor.Er
