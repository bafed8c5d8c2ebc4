/- errors.As at a target of kind *api.Errno: Go's own text walked (after the worked example toyas). -/
import Derived.Test.YtnenmmdpclglhaaGreatDoorProg
import Derived.WalkKit
import Derived.LaidEql
import Derived.Stop.Asserts
import Derived.RowKitTokens
import Derived.Test.YtnenmmdpclglhaaGreatDoorP7
import Derived.Test.YtnenmmdpclglhaaGreatDoorP9
import Derived.Test.YtnenmmdpclglhaaGreatDoorP8
import Derived.Test.YtnenmmdpclglhaaGreatDoorP11
import Derived.Test.YtnenmmdpclglhaaGreatDoorP15
import Derived.Test.YtnenmmdpclglhaaGreatDoorP13
import Derived.Test.YtnenmmdpclglhaaGreatDoorP6
import Derived.OpenShut
import Derived.SizedLaws
import Derived.Test.YtnenmmdpclglhaaGreatDoorRows
import Derived.ChangeSame
import Derived.ChangeVars
import Derived.JoinedOf
import Derived.RowKit
import Derived.LaidLaws
import Derived.LaidHandle
import Derived.Stop.Joined
set_option linter.defProp false
set_option linter.unusedSimpArgs false
set_option linter.unusedVariables false
set_option maxHeartbeats 8000000
set_option maxRecDepth 20000
namespace Gv.Tryz
open Go Go.Proofs Go.RowKit Go.Extern.Stop Go.Stop Go.Extern
theorem AsD.valueOf27 (t : Addr) (w : World) : (ReflectliteValue.unpack (.iface 112 (.pointer (some t)))).run Tryz.prog w
 = .ok (.agg #[.pointer (some ⟨2, 112, none⟩), .pointer (some ⟨w.heap.size, 0, none⟩), .int .u64 150]) (w.alloc (.cells #[.pointer (some t)] 112)) := by kernel_rfl
theorem AsD.type27 (a : Addr) (w : World) : (ReflectliteValue.methodAny (ReflectliteValue.valueError "reflectlite.Value.Type" 0) (fun t _ _ _ => ReflectliteType.toType t) #[.agg #[.pointer (some ⟨2, 112, none⟩), .pointer (some a), .int .u64 150]]).run Tryz.prog w
 = .ok (.iface 176 (.agg #[.pointer (some ⟨2, 112, none⟩)])) w := by kernel_rfl
theorem AsD.methodKind (h : Value) (w : World) : (Go.method 353 176 (.agg #[h]) "Kind").run Tryz.prog w = .ok (163, h) w := by kernel_rfl
theorem AsD.kind27 (w : World) : ((ReflectliteType.abiMethod fun t => (fun a : Nat => Value.int IntKind.u8 (a : Int)) <$> Rtype.kind t) #[.pointer (some ⟨2, 112, none⟩)]).run Tryz.prog w = .ok (.int .u8 22) w := by kernel_rfl
theorem AsD.kind25 (w : World) : ((ReflectliteType.abiMethod fun t => (fun a : Nat => Value.int IntKind.u8 (a : Int)) <$> Rtype.kind t) #[.pointer (some ⟨2, 52, none⟩)]).run Tryz.prog w = .ok (.int .u8 2) w := by kernel_rfl
theorem rlm (z : Sem Value) (f : TypeId → Addr → Nat → Nat → Sem Value) (v : Value) :
 ReflectliteValue.method z f #[v] = (do match ← ReflectliteValue.parts v with | none => z | some (t, a, fl) => f t a fl (fl % 32)) := rfl
theorem AsD.parts27 (a : Addr) (w : World) : (ReflectliteValue.parts (.agg #[.pointer (some ⟨2, 112, none⟩), .pointer (some a), .int .u64 150])).run Tryz.prog w = .ok (some (112, a, 150)) w := by kernel_rfl
theorem AsD.isNil27 (a p : Addr) (W : World) (ha : W.cell? a = some (.pointer (some p))) :
 (ReflectliteValue.method (ReflectliteValue.valueError "reflectlite.Value.IsNil" 0) ReflectliteValue.isNil #[.agg #[.pointer (some ⟨2, 112, none⟩), .pointer (some a), .int .u64 150]]).run Tryz.prog W = .ok (.bool false) W := by
 rw [rlm]
 simp only [Sem.run_bind, AsD.parts27, Result.andThen]
 simp [ReflectliteValue.isNil, loadVar, isAgg, underlying, Tryz.underlying112, ha, Result.andThen]
theorem AsD.methodElem (h : Value) (w : World) : (Go.method 353 176 (.agg #[h]) "Elem").run Tryz.prog w = .ok (176, .agg #[h]) w := by kernel_rfl
theorem AsD.methodImplements (h : Value) (w : World) : (Go.method 353 176 (.agg #[h]) "Implements").run Tryz.prog w = .ok (177, .agg #[h]) w := by kernel_rfl
theorem AsD.methodAssignableTo (h : Value) (w : World) : (Go.method 353 176 (.agg #[h]) "AssignableTo").run Tryz.prog w = .ok (174, .agg #[h]) w := by kernel_rfl
theorem AsD.elem27 (w : World) : (ReflectliteType.method ReflectliteType.elem #[.agg #[.pointer (some ⟨2, 112, none⟩)]]).run Tryz.prog w = .ok (.iface 176 (.agg #[.pointer (some ⟨2, 52, none⟩)])) w := by kernel_rfl
theorem AsD.implements25 (w : World) : (ReflectliteType.relation "Implements" ReflectliteType.implements_ #[.agg #[.pointer (some ⟨2, 52, none⟩)], .iface 176 (.agg #[.pointer (some ⟨2, 28, none⟩)])]).run Tryz.prog w = .ok (.bool true) w := by kernel_rfl
theorem AsD.typeOf25 (v : Value) (w : World) : (ReflectliteType.typeOf #[.iface 52 v]).run Tryz.prog w = .ok (.iface 176 (.agg #[.pointer (some ⟨2, 52, none⟩)])) w := by kernel_rfl
theorem AsD.assignable25 (w : World) : (ReflectliteType.relation "AssignableTo" ReflectliteType.assignableTo #[.agg #[.pointer (some ⟨2, 52, none⟩)], .iface 176 (.agg #[.pointer (some ⟨2, 52, none⟩)])]).run Tryz.prog w = .ok (.bool true) w := by kernel_rfl
theorem AsD.valueOf25 (e : Int) (w : World) : (ReflectliteValue.unpack (.iface 52 (.int .i64 e))).run Tryz.prog w
 = .ok (.agg #[.pointer (some ⟨2, 52, none⟩), .pointer (some ⟨w.heap.size, 0, none⟩), .int .u64 130]) (w.alloc (.cells #[.int .i64 e] 52)) := by kernel_rfl
theorem AsD.elemOf27 (w : World) : (Rtype.elem? 112).run Tryz.prog w = .ok (some 52) w := by kernel_rfl
theorem AsD.mk25 (p : Addr) (w : World) : (ReflectliteValue.mk 52 p ReflectliteValue.flagAddr).run Tryz.prog w = .ok (.agg #[.pointer (some ⟨2, 52, none⟩), .pointer (some p), .int .u64 386]) w := by kernel_rfl
theorem AsD.elemV27 (a p : Addr) (W : World) (ha : W.cell? a = some (.pointer (some p))) :
 (ReflectliteValue.method (ReflectliteValue.valueError "reflectlite.Value.Elem" 0) ReflectliteValue.elem #[.agg #[.pointer (some ⟨2, 112, none⟩), .pointer (some a), .int .u64 150]]).run Tryz.prog W
  = .ok (.agg #[.pointer (some ⟨2, 52, none⟩), .pointer (some p), .int .u64 386]) W := by
 rw [rlm]
 simp only [Sem.run_bind, AsD.parts27, Result.andThen]
 simp [ReflectliteValue.elem, loadVar, isAgg, underlying, Tryz.underlying112, ha, Result.andThen, AsD.elemOf27, AsD.mk25]
theorem rls (v x : Value) : ReflectliteValue.set #[v, x] = (do
 let (some (dst, a, fl), some (src, b, _)) := (← ReflectliteValue.parts v, ← ReflectliteValue.parts x)
  | unsupported (.noEntry "extern/(internal/reflectlite.Value).Set.zeroValue")
 if fl / ReflectliteValue.flagAddr % 2 == 0 then unsupported (.noEntry "extern/(internal/reflectlite.Value).Set.unaddressable")
 let val ← loadVar src b
 if ← Rtype.directlyAssignable dst src then storeVar dst a val
 else if ← Rtype.implements dst src then
  if (← Rtype.kind src) == 20 then
   match val with
   | .nilIface => unsupported (.noEntry "extern/reflectlite: a nil value of one interface type handed on as a value of another")
   | _ => storeVar dst a val
  else storeVar dst a (.iface src val)
 else panicString ("reflectlite.Set: value of type " ++ (← Rtype.spelt src) ++ " is not assignable to type " ++ (← Rtype.spelt dst))
 pure (.tuple #[])) := rfl
theorem AsD.parts25a (a : Addr) (w : World) : (ReflectliteValue.parts (.agg #[.pointer (some ⟨2, 52, none⟩), .pointer (some a), .int .u64 386])).run Tryz.prog w = .ok (some (52, a, 386)) w := by kernel_rfl
theorem AsD.parts25 (a : Addr) (w : World) : (ReflectliteValue.parts (.agg #[.pointer (some ⟨2, 52, none⟩), .pointer (some a), .int .u64 130])).run Tryz.prog w = .ok (some (52, a, 130)) w := by kernel_rfl
theorem AsD.direct25 (w : World) : (Rtype.directlyAssignable 52 52).run Tryz.prog w = .ok true w := by kernel_rfl
theorem AsD.set25 (ta b : Addr) (e : Int) (old : Value) (W : World) (hb : W.cell? b = some (.int .i64 e)) (ht : W.cell? ta = some old) (hf : W.frozen? ta = false) :
 (ReflectliteValue.set #[.agg #[.pointer (some ⟨2, 52, none⟩), .pointer (some ta), .int .u64 386], .agg #[.pointer (some ⟨2, 52, none⟩), .pointer (some b), .int .u64 130]]).run Tryz.prog W
  = .ok (.tuple #[]) (W.setCell ta (.int .i64 e)) := by
 rw [rls]
 simp only [Sem.run_bind, AsD.parts25a, AsD.parts25, Result.andThen]
 simp [ReflectliteValue.flagAddr, loadVar, isAgg, underlying, Tryz.underlying52, hb, Result.andThen, AsD.direct25, storeVar, Value.cells, storeCells, Addr.add]
 rw [run_store Tryz.prog W ta _ _ (by rfl)]
 simp [ht, hf]
theorem QpS (e : Int) (t : Addr) (old : Value) (w : World) (hg : w.cell? ⟨0, 0, none⟩ = some (.iface 176 (.agg #[.pointer (some ⟨2, 28, none⟩)]))) (ht0 : w.cell? t = some old) (hf0 : w.frozen? t = false) :
 Calls Tryz.prog 50 #[.iface 52 (.int .i64 e), .iface 112 (.pointer (some t))] w fun ev w' => ev = .returned (.bool true) ∧ w' = ((((w.alloc (.cells #[.pointer (some t)] 112)).alloc (.cells #[.pointer (some ⟨2, 112, none⟩), .pointer (some ⟨w.heap.size, 0, none⟩), .int .u64 150] 143)).alloc (.cells #[.pointer (some ⟨2, 112, none⟩), .pointer (some ⟨w.heap.size, 0, none⟩), .int .u64 150] 143)).alloc (.cells #[.int .i64 e] 52)).setCell t (.int .i64 e) := by
 have h6 := @run_callFunc_extern Tryz.prog 83 _ (fun args => ReflectliteValue.unpack (args.getD 0 (.tuple #[]))) Tryz.func83 (by kernel_rfl) (by kernel_rfl) (by kernel_rfl) (by kernel_rfl)
 have h7 := @run_callFunc_extern Tryz.prog 84 _ (ReflectliteValue.methodAny (ReflectliteValue.valueError "reflectlite.Value.Type" 0) (fun t _ _ _ => ReflectliteType.toType t)) Tryz.func84 (by kernel_rfl) (by kernel_rfl) (by kernel_rfl) (by kernel_rfl)
 have h8 := @run_callFunc_extern Tryz.prog 85 _ (ReflectliteValue.method (ReflectliteValue.valueError "reflectlite.Value.IsNil" 0) ReflectliteValue.isNil) Tryz.func85 (by kernel_rfl) (by kernel_rfl) (by kernel_rfl) (by kernel_rfl)
 have h27 := @run_callFunc_extern Tryz.prog 163 _ (ReflectliteType.abiMethod fun t => do pure (.int .u8 (← Rtype.kind t))) Tryz.func163 (by kernel_rfl) (by kernel_rfl) (by kernel_rfl) (by kernel_rfl)
 have h37 := @run_callFunc_extern Tryz.prog 176 _ (ReflectliteType.method ReflectliteType.elem) Tryz.func176 (by kernel_rfl) (by kernel_rfl) (by kernel_rfl) (by kernel_rfl)
 have h38 := @run_callFunc_extern Tryz.prog 177 _ (ReflectliteType.relation "Implements" ReflectliteType.implements_) Tryz.func177 (by kernel_rfl) (by kernel_rfl) (by kernel_rfl) (by kernel_rfl)
 have h10 := @run_callFunc_extern Tryz.prog 110 _ ReflectliteType.typeOf Tryz.func110 (by kernel_rfl) (by kernel_rfl) (by kernel_rfl) (by kernel_rfl)
 have h35 := @run_callFunc_extern Tryz.prog 174 _ (ReflectliteType.relation "AssignableTo" ReflectliteType.assignableTo) Tryz.func174 (by kernel_rfl) (by kernel_rfl) (by kernel_rfl) (by kernel_rfl)
 have h11 := @run_callFunc_extern Tryz.prog 111 _ (ReflectliteValue.method (ReflectliteValue.valueError "reflectlite.Value.Elem" 0) ReflectliteValue.elem) Tryz.func111 (by kernel_rfl) (by kernel_rfl) (by kernel_rfl) (by kernel_rfl)
 have h12 := @run_callFunc_extern Tryz.prog 112 _ ReflectliteValue.set Tryz.func112 (by kernel_rfl) (by kernel_rfl) (by kernel_rfl) (by kernel_rfl)
 have tO := AsD.typeOf25
 have mA := AsD.methodAssignableTo
 have a25 := AsD.assignable25
 have v25 := AsD.valueOf25
 have f6 := AsD.valueOf27
 have f7 := AsD.type27
 have mK := AsD.methodKind
 have mE := AsD.methodElem
 have mI := AsD.methodImplements
 have k27 := AsD.kind27
 have k25 := AsD.kind25
 have e27 := AsD.elem27
 have i25 := AsD.implements25
 have n8 := AsD.isNil27 ⟨w.heap.size, 0, none⟩ t ((w.alloc (.cells #[.pointer (some t)] 112)).alloc (.cells #[.pointer (some ⟨2, 112, none⟩), .pointer (some ⟨w.heap.size, 0, none⟩), .int .u64 150] 143)) (by simp)
 have hlt : 0 < w.heap.size := by
  rcases Nat.eq_zero_or_pos w.heap.size with h0 | h
  · simp [World.cell?, h0] at hg
  · exact h
 have hg2 : ((w.alloc (.cells #[.pointer (some t)] 112)).alloc (.cells #[.pointer (some ⟨2, 112, none⟩), .pointer (some ⟨w.heap.size, 0, none⟩), .int .u64 150] 143)).cell? ⟨0, 0, none⟩ = some (.iface 176 (.agg #[.pointer (some ⟨2, 28, none⟩)])) := by
  rw [World.cell?_alloc_lt _ _ ⟨0, 0, none⟩ (by simp), World.cell?_alloc_lt _ _ ⟨0, 0, none⟩ hlt]; exact hg
 have htl : t.block < w.heap.size := by
  rcases Nat.lt_or_ge t.block w.heap.size with h | h
  · exact h
  · simp [World.cell?, Array.getElem?_eq_none h] at ht0
 have el := AsD.elemV27 ⟨w.heap.size, 0, none⟩ t (((w.alloc (.cells #[.pointer (some t)] 112)).alloc (.cells #[.pointer (some ⟨2, 112, none⟩), .pointer (some ⟨w.heap.size, 0, none⟩), .int .u64 150] 143)).alloc (.cells #[.pointer (some ⟨2, 112, none⟩), .pointer (some ⟨w.heap.size, 0, none⟩), .int .u64 150] 143)) (by rw [World.cell?_alloc_lt _ _ ⟨w.heap.size, 0, none⟩ (by simp; omega)]; simp)
 have st := AsD.set25 t ⟨w.heap.size + 1 + 1 + 1, 0, none⟩ e old ((((w.alloc (.cells #[.pointer (some t)] 112)).alloc (.cells #[.pointer (some ⟨2, 112, none⟩), .pointer (some ⟨w.heap.size, 0, none⟩), .int .u64 150] 143)).alloc (.cells #[.pointer (some ⟨2, 112, none⟩), .pointer (some ⟨w.heap.size, 0, none⟩), .int .u64 150] 143)).alloc (.cells #[.int .i64 e] 52))
  (by rw [World.cell?_alloc_at _ _ _ _ (by simp)]; rfl)
  (by rw [World.cell?_alloc_lt _ _ t (by simp; omega), World.cell?_alloc_lt _ _ t (by simp; omega), World.cell?_alloc_lt _ _ t (by simp; omega), World.cell?_alloc_lt _ _ t htl]; exact ht0)
  (by rw [World.frozen?_alloc_old _ _ t (by simp; omega), World.frozen?_alloc_old _ _ t (by simp; omega), World.frozen?_alloc_old _ _ t (by simp; omega), World.frozen?_alloc_old _ _ t (Nat.ne_of_lt htl)]; exact hf0)
 go_enter Tryz.func50, Tryz.ntmps50
 go_wp2
 refine wp_loop_rounds 1 ?_
 rw [rounds_succ]
 go_wp2
 go_ret
 exact ⟨rfl, rfl⟩
theorem AsW.typeOf (v : Value) (w : World) : (ReflectliteType.typeOf #[.iface 113 v]).run Tryz.prog w = .ok (.iface 176 (.agg #[.pointer (some ⟨2, 113, none⟩)])) w := by kernel_rfl
theorem AsW.notAssignable (w : World) : (ReflectliteType.relation "AssignableTo" ReflectliteType.assignableTo #[.agg #[.pointer (some ⟨2, 113, none⟩)], .iface 176 (.agg #[.pointer (some ⟨2, 52, none⟩)])]).run Tryz.prog w = .ok (.bool false) w := by kernel_rfl
theorem AsW.noAs (v : Value) (xT : TypeId) (w : World) : (Instr.typeAssert (.iface 113 v) xT 181 true).run Tryz.prog w = .ok (.tuple #[.nilIface, .bool false]) w := run_typeAssert_lacksB Tryz.underlying181 (by kernel_rfl) (by kernel_rfl) v xT w
theorem AsW.hasUnwrap (v : Value) (xT : TypeId) (w : World) : (Instr.typeAssert (.iface 113 v) xT 184 true).run Tryz.prog w = .ok (.tuple #[.iface 113 v, .bool true]) w := run_typeAssert_hasB Tryz.underlying184 (by kernel_rfl) v xT w
theorem AsW.methodUnwrap (p : Value) (w : World) : (Go.method 353 113 p "Unwrap").run Tryz.prog w = .ok (169, p) w := by kernel_rfl
theorem QnC (b0 off : Nat) (e : Int) (t : Addr) (old : Value) (w : World) (hp : w.cell? ⟨b0, off + 32, none⟩ = some (.iface 52 (.int .i64 e))) (hg : w.cell? ⟨0, 0, none⟩ = some (.iface 176 (.agg #[.pointer (some ⟨2, 28, none⟩)]))) (ht0 : w.cell? t = some old) (hf0 : w.frozen? t = false) :
 Calls Tryz.prog 50 #[.iface 113 (.pointer (some ⟨b0, off, none⟩)), .iface 112 (.pointer (some t))] w fun ev w' => ev = .returned (.bool true) ∧ w' = ((((w.alloc (.cells #[.pointer (some t)] 112)).alloc (.cells #[.pointer (some ⟨2, 112, none⟩), .pointer (some ⟨w.heap.size, 0, none⟩), .int .u64 150] 143)).alloc (.cells #[.pointer (some ⟨2, 112, none⟩), .pointer (some ⟨w.heap.size, 0, none⟩), .int .u64 150] 143)).alloc (.cells #[.int .i64 e] 52)).setCell t (.int .i64 e) := by
 have h6 := @run_callFunc_extern Tryz.prog 83 _ (fun args => ReflectliteValue.unpack (args.getD 0 (.tuple #[]))) Tryz.func83 (by kernel_rfl) (by kernel_rfl) (by kernel_rfl) (by kernel_rfl)
 have h7 := @run_callFunc_extern Tryz.prog 84 _ (ReflectliteValue.methodAny (ReflectliteValue.valueError "reflectlite.Value.Type" 0) (fun t _ _ _ => ReflectliteType.toType t)) Tryz.func84 (by kernel_rfl) (by kernel_rfl) (by kernel_rfl) (by kernel_rfl)
 have h8 := @run_callFunc_extern Tryz.prog 85 _ (ReflectliteValue.method (ReflectliteValue.valueError "reflectlite.Value.IsNil" 0) ReflectliteValue.isNil) Tryz.func85 (by kernel_rfl) (by kernel_rfl) (by kernel_rfl) (by kernel_rfl)
 have h27 := @run_callFunc_extern Tryz.prog 163 _ (ReflectliteType.abiMethod fun t => do pure (.int .u8 (← Rtype.kind t))) Tryz.func163 (by kernel_rfl) (by kernel_rfl) (by kernel_rfl) (by kernel_rfl)
 have h37 := @run_callFunc_extern Tryz.prog 176 _ (ReflectliteType.method ReflectliteType.elem) Tryz.func176 (by kernel_rfl) (by kernel_rfl) (by kernel_rfl) (by kernel_rfl)
 have h38 := @run_callFunc_extern Tryz.prog 177 _ (ReflectliteType.relation "Implements" ReflectliteType.implements_) Tryz.func177 (by kernel_rfl) (by kernel_rfl) (by kernel_rfl) (by kernel_rfl)
 have h10 := @run_callFunc_extern Tryz.prog 110 _ ReflectliteType.typeOf Tryz.func110 (by kernel_rfl) (by kernel_rfl) (by kernel_rfl) (by kernel_rfl)
 have h35 := @run_callFunc_extern Tryz.prog 174 _ (ReflectliteType.relation "AssignableTo" ReflectliteType.assignableTo) Tryz.func174 (by kernel_rfl) (by kernel_rfl) (by kernel_rfl) (by kernel_rfl)
 have h11 := @run_callFunc_extern Tryz.prog 111 _ (ReflectliteValue.method (ReflectliteValue.valueError "reflectlite.Value.Elem" 0) ReflectliteValue.elem) Tryz.func111 (by kernel_rfl) (by kernel_rfl) (by kernel_rfl) (by kernel_rfl)
 have h12 := @run_callFunc_extern Tryz.prog 112 _ ReflectliteValue.set Tryz.func112 (by kernel_rfl) (by kernel_rfl) (by kernel_rfl) (by kernel_rfl)
 have tW := AsW.typeOf
 have nA := AsW.notAssignable
 have noA := AsW.noAs
 have hU := AsW.hasUnwrap
 have mU := AsW.methodUnwrap
 have tO := AsD.typeOf25
 have mA := AsD.methodAssignableTo
 have a25 := AsD.assignable25
 have v25 := AsD.valueOf25
 have f6 := AsD.valueOf27
 have f7 := AsD.type27
 have mK := AsD.methodKind
 have mE := AsD.methodElem
 have mI := AsD.methodImplements
 have k27 := AsD.kind27
 have k25 := AsD.kind25
 have e27 := AsD.elem27
 have i25 := AsD.implements25
 have n8 := AsD.isNil27 ⟨w.heap.size, 0, none⟩ t ((w.alloc (.cells #[.pointer (some t)] 112)).alloc (.cells #[.pointer (some ⟨2, 112, none⟩), .pointer (some ⟨w.heap.size, 0, none⟩), .int .u64 150] 143)) (by simp)
 have hlt : 0 < w.heap.size := by
  rcases Nat.eq_zero_or_pos w.heap.size with h0 | h
  · simp [World.cell?, h0] at hg
  · exact h
 have hg2 : ((w.alloc (.cells #[.pointer (some t)] 112)).alloc (.cells #[.pointer (some ⟨2, 112, none⟩), .pointer (some ⟨w.heap.size, 0, none⟩), .int .u64 150] 143)).cell? ⟨0, 0, none⟩ = some (.iface 176 (.agg #[.pointer (some ⟨2, 28, none⟩)])) := by
  rw [World.cell?_alloc_lt _ _ ⟨0, 0, none⟩ (by simp), World.cell?_alloc_lt _ _ ⟨0, 0, none⟩ hlt]; exact hg
 have htl : t.block < w.heap.size := by
  rcases Nat.lt_or_ge t.block w.heap.size with h | h
  · exact h
  · simp [World.cell?, Array.getElem?_eq_none h] at ht0
 have el := AsD.elemV27 ⟨w.heap.size, 0, none⟩ t (((w.alloc (.cells #[.pointer (some t)] 112)).alloc (.cells #[.pointer (some ⟨2, 112, none⟩), .pointer (some ⟨w.heap.size, 0, none⟩), .int .u64 150] 143)).alloc (.cells #[.pointer (some ⟨2, 112, none⟩), .pointer (some ⟨w.heap.size, 0, none⟩), .int .u64 150] 143)) (by rw [World.cell?_alloc_lt _ _ ⟨w.heap.size, 0, none⟩ (by simp; omega)]; simp)
 have st := AsD.set25 t ⟨w.heap.size + 1 + 1 + 1, 0, none⟩ e old ((((w.alloc (.cells #[.pointer (some t)] 112)).alloc (.cells #[.pointer (some ⟨2, 112, none⟩), .pointer (some ⟨w.heap.size, 0, none⟩), .int .u64 150] 143)).alloc (.cells #[.pointer (some ⟨2, 112, none⟩), .pointer (some ⟨w.heap.size, 0, none⟩), .int .u64 150] 143)).alloc (.cells #[.int .i64 e] 52))
  (by rw [World.cell?_alloc_at _ _ _ _ (by simp)]; rfl)
  (by rw [World.cell?_alloc_lt _ _ t (by simp; omega), World.cell?_alloc_lt _ _ t (by simp; omega), World.cell?_alloc_lt _ _ t (by simp; omega), World.cell?_alloc_lt _ _ t htl]; exact ht0)
  (by rw [World.frozen?_alloc_old _ _ t (by simp; omega), World.frozen?_alloc_old _ _ t (by simp; omega), World.frozen?_alloc_old _ _ t (by simp; omega), World.frozen?_alloc_old _ _ t (Nat.ne_of_lt htl)]; exact hf0)
 have hbl : b0 < w.heap.size := by
  rcases Nat.lt_or_ge b0 w.heap.size with h | h
  · exact h
  · simp [World.cell?, Array.getElem?_eq_none h] at hp
 have hp3 : (((w.alloc (.cells #[.pointer (some t)] 112)).alloc (.cells #[.pointer (some ⟨2, 112, none⟩), .pointer (some ⟨w.heap.size, 0, none⟩), .int .u64 150] 143)).alloc (.cells #[.pointer (some ⟨2, 112, none⟩), .pointer (some ⟨w.heap.size, 0, none⟩), .int .u64 150] 143)).cell? ⟨b0, off + 32, none⟩ = some (.iface 52 (.int .i64 e)) := by
  rw [World.cell?_alloc_lt _ _ ⟨b0, off + 32, none⟩ (by simp; omega), World.cell?_alloc_lt _ _ ⟨b0, off + 32, none⟩ (by simp; omega), World.cell?_alloc_lt _ _ ⟨b0, off + 32, none⟩ hbl]; exact hp
 go_enter Tryz.func50, Tryz.ntmps50
 go_wp2
 refine wp_loop_rounds 2 ?_
 rw [rounds_succ]
 go_wp2
 rw [rounds_succ]
 go_wp2
 go_ret
 exact ⟨rfl, rfl⟩
theorem AsX.valueOf27 (t : Addr) (w : World) : (ReflectliteValue.unpack (.iface 114 (.pointer (some t)))).run Tryz.prog w
 = .ok (.agg #[.pointer (some ⟨2, 114, none⟩), .pointer (some ⟨w.heap.size, 0, none⟩), .int .u64 150]) (w.alloc (.cells #[.pointer (some t)] 114)) := by kernel_rfl
theorem AsX.type27 (a : Addr) (w : World) : (ReflectliteValue.methodAny (ReflectliteValue.valueError "reflectlite.Value.Type" 0) (fun t _ _ _ => ReflectliteType.toType t) #[.agg #[.pointer (some ⟨2, 114, none⟩), .pointer (some a), .int .u64 150]]).run Tryz.prog w
 = .ok (.iface 176 (.agg #[.pointer (some ⟨2, 114, none⟩)])) w := by kernel_rfl
theorem AsX.methodKind (h : Value) (w : World) : (Go.method 353 176 (.agg #[h]) "Kind").run Tryz.prog w = .ok (163, h) w := by kernel_rfl
theorem AsX.kind27 (w : World) : ((ReflectliteType.abiMethod fun t => (fun a : Nat => Value.int IntKind.u8 (a : Int)) <$> Rtype.kind t) #[.pointer (some ⟨2, 114, none⟩)]).run Tryz.prog w = .ok (.int .u8 22) w := by kernel_rfl
theorem AsX.kind25 (w : World) : ((ReflectliteType.abiMethod fun t => (fun a : Nat => Value.int IntKind.u8 (a : Int)) <$> Rtype.kind t) #[.pointer (some ⟨2, 113, none⟩)]).run Tryz.prog w = .ok (.int .u8 22) w := by kernel_rfl
theorem AsX.parts27 (a : Addr) (w : World) : (ReflectliteValue.parts (.agg #[.pointer (some ⟨2, 114, none⟩), .pointer (some a), .int .u64 150])).run Tryz.prog w = .ok (some (114, a, 150)) w := by kernel_rfl
theorem AsX.isNil27 (a p : Addr) (W : World) (ha : W.cell? a = some (.pointer (some p))) :
 (ReflectliteValue.method (ReflectliteValue.valueError "reflectlite.Value.IsNil" 0) ReflectliteValue.isNil #[.agg #[.pointer (some ⟨2, 114, none⟩), .pointer (some a), .int .u64 150]]).run Tryz.prog W = .ok (.bool false) W := by
 rw [rlm]
 simp only [Sem.run_bind, AsX.parts27, Result.andThen]
 simp [ReflectliteValue.isNil, loadVar, isAgg, underlying, Tryz.underlying114, ha, Result.andThen]
theorem AsX.methodElem (h : Value) (w : World) : (Go.method 353 176 (.agg #[h]) "Elem").run Tryz.prog w = .ok (176, .agg #[h]) w := by kernel_rfl
theorem AsX.methodImplements (h : Value) (w : World) : (Go.method 353 176 (.agg #[h]) "Implements").run Tryz.prog w = .ok (177, .agg #[h]) w := by kernel_rfl
theorem AsX.methodAssignableTo (h : Value) (w : World) : (Go.method 353 176 (.agg #[h]) "AssignableTo").run Tryz.prog w = .ok (174, .agg #[h]) w := by kernel_rfl
theorem AsX.elem27 (w : World) : (ReflectliteType.method ReflectliteType.elem #[.agg #[.pointer (some ⟨2, 114, none⟩)]]).run Tryz.prog w = .ok (.iface 176 (.agg #[.pointer (some ⟨2, 113, none⟩)])) w := by kernel_rfl
theorem AsX.implements25 (w : World) : (ReflectliteType.relation "Implements" ReflectliteType.implements_ #[.agg #[.pointer (some ⟨2, 113, none⟩)], .iface 176 (.agg #[.pointer (some ⟨2, 28, none⟩)])]).run Tryz.prog w = .ok (.bool true) w := by kernel_rfl
theorem AsX.typeOf25 (v : Value) (w : World) : (ReflectliteType.typeOf #[.iface 113 v]).run Tryz.prog w = .ok (.iface 176 (.agg #[.pointer (some ⟨2, 113, none⟩)])) w := by kernel_rfl
theorem AsX.assignable25 (w : World) : (ReflectliteType.relation "AssignableTo" ReflectliteType.assignableTo #[.agg #[.pointer (some ⟨2, 113, none⟩)], .iface 176 (.agg #[.pointer (some ⟨2, 113, none⟩)])]).run Tryz.prog w = .ok (.bool true) w := by kernel_rfl
theorem AsX.valueOf25 (p : Addr) (w : World) : (ReflectliteValue.unpack (.iface 113 (.pointer (some p)))).run Tryz.prog w
 = .ok (.agg #[.pointer (some ⟨2, 113, none⟩), .pointer (some ⟨w.heap.size, 0, none⟩), .int .u64 150]) (w.alloc (.cells #[.pointer (some p)] 113)) := by kernel_rfl
theorem AsX.elemOf27 (w : World) : (Rtype.elem? 114).run Tryz.prog w = .ok (some 113) w := by kernel_rfl
theorem AsX.mk25 (p : Addr) (w : World) : (ReflectliteValue.mk 113 p ReflectliteValue.flagAddr).run Tryz.prog w = .ok (.agg #[.pointer (some ⟨2, 113, none⟩), .pointer (some p), .int .u64 406]) w := by kernel_rfl
theorem AsX.elemV27 (a p : Addr) (W : World) (ha : W.cell? a = some (.pointer (some p))) :
 (ReflectliteValue.method (ReflectliteValue.valueError "reflectlite.Value.Elem" 0) ReflectliteValue.elem #[.agg #[.pointer (some ⟨2, 114, none⟩), .pointer (some a), .int .u64 150]]).run Tryz.prog W
  = .ok (.agg #[.pointer (some ⟨2, 113, none⟩), .pointer (some p), .int .u64 406]) W := by
 rw [rlm]
 simp only [Sem.run_bind, AsX.parts27, Result.andThen]
 simp [ReflectliteValue.elem, loadVar, isAgg, underlying, Tryz.underlying114, ha, Result.andThen, AsX.elemOf27, AsX.mk25]
theorem AsX.parts25a (a : Addr) (w : World) : (ReflectliteValue.parts (.agg #[.pointer (some ⟨2, 113, none⟩), .pointer (some a), .int .u64 406])).run Tryz.prog w = .ok (some (113, a, 406)) w := by kernel_rfl
theorem AsX.parts25 (a : Addr) (w : World) : (ReflectliteValue.parts (.agg #[.pointer (some ⟨2, 113, none⟩), .pointer (some a), .int .u64 150])).run Tryz.prog w = .ok (some (113, a, 150)) w := by kernel_rfl
theorem AsX.direct25 (w : World) : (Rtype.directlyAssignable 113 113).run Tryz.prog w = .ok true w := by kernel_rfl
theorem AsX.set25 (ta b p : Addr) (old : Value) (W : World) (hb : W.cell? b = some (.pointer (some p))) (ht : W.cell? ta = some old) (hf : W.frozen? ta = false) :
 (ReflectliteValue.set #[.agg #[.pointer (some ⟨2, 113, none⟩), .pointer (some ta), .int .u64 406], .agg #[.pointer (some ⟨2, 113, none⟩), .pointer (some b), .int .u64 150]]).run Tryz.prog W
  = .ok (.tuple #[]) (W.setCell ta (.pointer (some p))) := by
 rw [rls]
 simp only [Sem.run_bind, AsX.parts25a, AsX.parts25, Result.andThen]
 simp [ReflectliteValue.flagAddr, loadVar, isAgg, underlying, Tryz.underlying113, hb, Result.andThen, AsX.direct25, storeVar, Value.cells, storeCells, Addr.add]
 rw [run_store Tryz.prog W ta _ _ (by rfl)]
 simp [ht, hf]
theorem Qpp (p : Addr) (t : Addr) (old : Value) (w : World) (hg : w.cell? ⟨0, 0, none⟩ = some (.iface 176 (.agg #[.pointer (some ⟨2, 28, none⟩)]))) (ht0 : w.cell? t = some old) (hf0 : w.frozen? t = false) :
 Calls Tryz.prog 50 #[.iface 113 (.pointer (some p)), .iface 114 (.pointer (some t))] w fun ev w' => ev = .returned (.bool true) ∧ w' = ((((w.alloc (.cells #[.pointer (some t)] 114)).alloc (.cells #[.pointer (some ⟨2, 114, none⟩), .pointer (some ⟨w.heap.size, 0, none⟩), .int .u64 150] 143)).alloc (.cells #[.pointer (some ⟨2, 114, none⟩), .pointer (some ⟨w.heap.size, 0, none⟩), .int .u64 150] 143)).alloc (.cells #[.pointer (some p)] 113)).setCell t (.pointer (some p)) := by
 have h6 := @run_callFunc_extern Tryz.prog 83 _ (fun args => ReflectliteValue.unpack (args.getD 0 (.tuple #[]))) Tryz.func83 (by kernel_rfl) (by kernel_rfl) (by kernel_rfl) (by kernel_rfl)
 have h7 := @run_callFunc_extern Tryz.prog 84 _ (ReflectliteValue.methodAny (ReflectliteValue.valueError "reflectlite.Value.Type" 0) (fun t _ _ _ => ReflectliteType.toType t)) Tryz.func84 (by kernel_rfl) (by kernel_rfl) (by kernel_rfl) (by kernel_rfl)
 have h8 := @run_callFunc_extern Tryz.prog 85 _ (ReflectliteValue.method (ReflectliteValue.valueError "reflectlite.Value.IsNil" 0) ReflectliteValue.isNil) Tryz.func85 (by kernel_rfl) (by kernel_rfl) (by kernel_rfl) (by kernel_rfl)
 have h27 := @run_callFunc_extern Tryz.prog 163 _ (ReflectliteType.abiMethod fun t => do pure (.int .u8 (← Rtype.kind t))) Tryz.func163 (by kernel_rfl) (by kernel_rfl) (by kernel_rfl) (by kernel_rfl)
 have h37 := @run_callFunc_extern Tryz.prog 176 _ (ReflectliteType.method ReflectliteType.elem) Tryz.func176 (by kernel_rfl) (by kernel_rfl) (by kernel_rfl) (by kernel_rfl)
 have h38 := @run_callFunc_extern Tryz.prog 177 _ (ReflectliteType.relation "Implements" ReflectliteType.implements_) Tryz.func177 (by kernel_rfl) (by kernel_rfl) (by kernel_rfl) (by kernel_rfl)
 have h10 := @run_callFunc_extern Tryz.prog 110 _ ReflectliteType.typeOf Tryz.func110 (by kernel_rfl) (by kernel_rfl) (by kernel_rfl) (by kernel_rfl)
 have h35 := @run_callFunc_extern Tryz.prog 174 _ (ReflectliteType.relation "AssignableTo" ReflectliteType.assignableTo) Tryz.func174 (by kernel_rfl) (by kernel_rfl) (by kernel_rfl) (by kernel_rfl)
 have h11 := @run_callFunc_extern Tryz.prog 111 _ (ReflectliteValue.method (ReflectliteValue.valueError "reflectlite.Value.Elem" 0) ReflectliteValue.elem) Tryz.func111 (by kernel_rfl) (by kernel_rfl) (by kernel_rfl) (by kernel_rfl)
 have h12 := @run_callFunc_extern Tryz.prog 112 _ ReflectliteValue.set Tryz.func112 (by kernel_rfl) (by kernel_rfl) (by kernel_rfl) (by kernel_rfl)
 have tO := AsX.typeOf25
 have mA := AsX.methodAssignableTo
 have a25 := AsX.assignable25
 have v25 := AsX.valueOf25
 have f6 := AsX.valueOf27
 have f7 := AsX.type27
 have mK := AsX.methodKind
 have mE := AsX.methodElem
 have mI := AsX.methodImplements
 have k27 := AsX.kind27
 have k25 := AsX.kind25
 have e27 := AsX.elem27
 have i25 := AsX.implements25
 have n8 := AsX.isNil27 ⟨w.heap.size, 0, none⟩ t ((w.alloc (.cells #[.pointer (some t)] 114)).alloc (.cells #[.pointer (some ⟨2, 114, none⟩), .pointer (some ⟨w.heap.size, 0, none⟩), .int .u64 150] 143)) (by simp)
 have hlt : 0 < w.heap.size := by
  rcases Nat.eq_zero_or_pos w.heap.size with h0 | h
  · simp [World.cell?, h0] at hg
  · exact h
 have hg2 : ((w.alloc (.cells #[.pointer (some t)] 114)).alloc (.cells #[.pointer (some ⟨2, 114, none⟩), .pointer (some ⟨w.heap.size, 0, none⟩), .int .u64 150] 143)).cell? ⟨0, 0, none⟩ = some (.iface 176 (.agg #[.pointer (some ⟨2, 28, none⟩)])) := by
  rw [World.cell?_alloc_lt _ _ ⟨0, 0, none⟩ (by simp), World.cell?_alloc_lt _ _ ⟨0, 0, none⟩ hlt]; exact hg
 have htl : t.block < w.heap.size := by
  rcases Nat.lt_or_ge t.block w.heap.size with h | h
  · exact h
  · simp [World.cell?, Array.getElem?_eq_none h] at ht0
 have el := AsX.elemV27 ⟨w.heap.size, 0, none⟩ t (((w.alloc (.cells #[.pointer (some t)] 114)).alloc (.cells #[.pointer (some ⟨2, 114, none⟩), .pointer (some ⟨w.heap.size, 0, none⟩), .int .u64 150] 143)).alloc (.cells #[.pointer (some ⟨2, 114, none⟩), .pointer (some ⟨w.heap.size, 0, none⟩), .int .u64 150] 143)) (by rw [World.cell?_alloc_lt _ _ ⟨w.heap.size, 0, none⟩ (by simp; omega)]; simp)
 have st := AsX.set25 t ⟨w.heap.size + 1 + 1 + 1, 0, none⟩ p old ((((w.alloc (.cells #[.pointer (some t)] 114)).alloc (.cells #[.pointer (some ⟨2, 114, none⟩), .pointer (some ⟨w.heap.size, 0, none⟩), .int .u64 150] 143)).alloc (.cells #[.pointer (some ⟨2, 114, none⟩), .pointer (some ⟨w.heap.size, 0, none⟩), .int .u64 150] 143)).alloc (.cells #[.pointer (some p)] 113))
  (by rw [World.cell?_alloc_at _ _ _ _ (by simp)]; rfl)
  (by rw [World.cell?_alloc_lt _ _ t (by simp; omega), World.cell?_alloc_lt _ _ t (by simp; omega), World.cell?_alloc_lt _ _ t (by simp; omega), World.cell?_alloc_lt _ _ t htl]; exact ht0)
  (by rw [World.frozen?_alloc_old _ _ t (by simp; omega), World.frozen?_alloc_old _ _ t (by simp; omega), World.frozen?_alloc_old _ _ t (by simp; omega), World.frozen?_alloc_old _ _ t (Nat.ne_of_lt htl)]; exact hf0)
 go_enter Tryz.func50, Tryz.ntmps50
 go_wp2
 refine wp_loop_rounds 1 ?_
 rw [rounds_succ]
 go_wp2
 go_ret
 exact ⟨rfl, rfl⟩
theorem AsM.typeOf (v : Value) (w : World) : (ReflectliteType.typeOf #[.iface 52 v]).run Tryz.prog w = .ok (.iface 176 (.agg #[.pointer (some ⟨2, 52, none⟩)])) w := by kernel_rfl
theorem AsM.notAssignable (w : World) : (ReflectliteType.relation "AssignableTo" ReflectliteType.assignableTo #[.agg #[.pointer (some ⟨2, 52, none⟩)], .iface 176 (.agg #[.pointer (some ⟨2, 113, none⟩)])]).run Tryz.prog w = .ok (.bool false) w := by kernel_rfl
theorem AsM.noAs (v : Value) (xT : TypeId) (w : World) : (Instr.typeAssert (.iface 52 v) xT 181 true).run Tryz.prog w = .ok (.tuple #[.nilIface, .bool false]) w := run_typeAssert_lacksB Tryz.underlying181 (by kernel_rfl) (by kernel_rfl) v xT w
open Go Gv Go.Proofs Go.RowKit
theorem QlF (w : World) : Calls Tryz.prog 19 #[.nilIface] w fun e w' => e = .returned (.int .i64 0) ∧ w' = w := by
 go_enter Tryz.func19, Tryz.ntmps19
 go_wp2
 go_ret
 exact ⟨rfl, rfl⟩
theorem QcK {w : World} {t : Addr} {v : Value} (h : w.cell? t = some v) : t.block < w.heap.size := by
 rcases Nat.lt_or_ge t.block w.heap.size with h1 | h1
 · exact h1
 · simp [World.cell?, Array.getElem?_eq_none h1] at h
theorem Qnb (w : World) (t : Addr) (old v : Value) (o1 o2 o3 o4 : Obj) (ht0 : w.cell? t = some old) :
 ((((((w.alloc o1).alloc o2).alloc o3).alloc o4).setCell t v)).cell? t = some v ∧ Below t.block w ((((((w.alloc o1).alloc o2).alloc o3).alloc o4).setCell t v)) := by
 have htl := QcK ht0
 have b0 : Below t.block w w := Below.refl _ _
 refine ⟨?_, (((((b0.alloc (by omega) _).alloc (by simp; omega) _).alloc (by simp; omega) _).alloc (by simp; omega) _).setCell (Nat.le_refl _) _)⟩
 refine World.cell?_setCell_same _ t _ (u := old) ?_
 rw [World.cell?_alloc_lt _ _ t (by simp; omega), World.cell?_alloc_lt _ _ t (by simp; omega), World.cell?_alloc_lt _ _ t (by simp; omega), World.cell?_alloc_lt _ _ t htl]; exact ht0
theorem QnB (e : Int) (t : Addr) (old : Value) (w : World) (hg : w.cell? ⟨0, 0, none⟩ = some (.iface 176 (.agg #[.pointer (some ⟨2, 28, none⟩)]))) (ht0 : w.cell? t = some old) (hf0 : w.frozen? t = false) :
 Calls Tryz.prog 50 #[.iface 52 (.int .i64 e), .iface 112 (.pointer (some t))] w fun ev w' => ev = .returned (.bool true) ∧ w'.cell? t = some (.int .i64 e) ∧ Below t.block w w' := by
 refine (QpS e t old w hg ht0 hf0).mono ?_
 rintro ev w' ⟨rfl, rfl⟩
 obtain ⟨h1, h2⟩ := Qnb w t old _ _ _ _ _ ht0
 exact ⟨rfl, h1, h2⟩
theorem QlG (b0 off : Nat) (e : Int) (t : Addr) (old : Value) (w : World) (hp : w.cell? ⟨b0, off + 32, none⟩ = some (.iface 52 (.int .i64 e))) (hg : w.cell? ⟨0, 0, none⟩ = some (.iface 176 (.agg #[.pointer (some ⟨2, 28, none⟩)]))) (ht0 : w.cell? t = some old) (hf0 : w.frozen? t = false) :
 Calls Tryz.prog 50 #[.iface 113 (.pointer (some ⟨b0, off, none⟩)), .iface 112 (.pointer (some t))] w fun ev w' => ev = .returned (.bool true) ∧ w'.cell? t = some (.int .i64 e) ∧ Below t.block w w' := by
 refine (QnC b0 off e t old w hp hg ht0 hf0).mono ?_
 rintro ev w' ⟨rfl, rfl⟩
 obtain ⟨h1, h2⟩ := Qnb w t old _ _ _ _ _ ht0
 exact ⟨rfl, h1, h2⟩
theorem QlH (n : Int) (w : World) (hg : w.cell? ⟨0, 0, none⟩ = some (.iface 176 (.agg #[.pointer (some ⟨2, 28, none⟩)]))) :
 Calls Tryz.prog 19 #[.iface 52 (.int .i64 n)] w fun e w' => e = .returned (.int .i64 n) ∧ Below w.heap.size w w' := by
 have hlt := QcK hg
 have ht := QnB n ⟨w.heap.size, 0, none⟩ (.int .i64 0) (w.alloc (.cells #[.int .i64 0] 52)) (by rw [World.cell?_alloc_lt _ _ ⟨0, 0, none⟩ hlt]; exact hg) (by simp) (by simp)
 go_enter Tryz.func19, Tryz.ntmps19
 go_wp2_with (go_at_call 50; refine ht.mono ?_; rintro e w' ⟨rfl, hc, hb⟩)
 go_ret
 exact ⟨rfl, ((Below.refl _ w).alloc (Nat.le_refl _) _).trans hb⟩
theorem Qi5 (b0 off : Nat) (n : Int) (w : World) (hp : w.cell? ⟨b0, off + 32, none⟩ = some (.iface 52 (.int .i64 n))) (hg : w.cell? ⟨0, 0, none⟩ = some (.iface 176 (.agg #[.pointer (some ⟨2, 28, none⟩)]))) :
 Calls Tryz.prog 19 #[.iface 113 (.pointer (some ⟨b0, off, none⟩))] w fun e w' => e = .returned (.int .i64 n) ∧ Below w.heap.size w w' := by
 have hlt := QcK hg
 have hlp := QcK hp
 have ht := QlG b0 off n ⟨w.heap.size, 0, none⟩ (.int .i64 0) (w.alloc (.cells #[.int .i64 0] 52)) (by rw [World.cell?_alloc_lt _ _ ⟨b0, off + 32, none⟩ hlp]; exact hp) (by rw [World.cell?_alloc_lt _ _ ⟨0, 0, none⟩ hlt]; exact hg) (by simp) (by simp)
 go_enter Tryz.func19, Tryz.ntmps19
 go_wp2_with (go_at_call 50; refine ht.mono ?_; rintro e w' ⟨rfl, hc, hb⟩)
 go_ret
 exact ⟨rfl, ((Below.refl _ w).alloc (Nat.le_refl _) _).trans hb⟩
theorem QeZ {E : Env} {O : List GObj} {w : World} (h : HSim E O w) : w.cell? ⟨0, 0, none⟩ = some (.iface 176 (.agg #[.pointer (some ⟨2, 28, none⟩)])) :=
 h.sealed _ _ _ (h.glob (0, 0, .iface 176 (.agg #[.pointer (some ⟨2, 28, none⟩)])) (by simp [globs]))
theorem Qgm {E : Env} {vs : Array Value} {g : GVal} (h : ArgsR E vs [g]) : ∃ v, vs = #[v] ∧ VR E v g := by
 obtain ⟨h1, h2⟩ := h
 have h3 := h2 0 _ rfl
 refine ⟨vs.getD 0 undef, ?_, h3⟩
 apply Array.ext (by simpa using h1)
 intro i hi hi2
 simp at hi2; subst hi2
 simp [Array.getD, hi]
theorem Qiv {E : Env} {vs : Array Value} {g k : GVal} (h : ArgsR E vs [g, k]) : ∃ v u, vs = #[v, u] ∧ VR E v g ∧ VR E u k := by
 obtain ⟨h1, h2⟩ := h
 have h3 := h2 0 _ rfl
 have h4 := h2 1 _ rfl
 have hs : vs.size = 2 := by simpa using h1
 refine ⟨vs.getD 0 undef, vs.getD 1 undef, ?_, h3, h4⟩
 apply Array.ext (by simpa using h1)
 intro i hi hi2
 match i with
 | 0 => simp [Array.getD, hs]
 | 1 => simp [Array.getD, hs]
 | i + 2 => omega
theorem QiQ : GPure Tryz.prog 19 [.lit .nilIface] (.int .i64 0) :=
 GPure.ofBelow (by kernel_rfl) fun E w vs hs ha => by
  obtain ⟨v, rfl, hv⟩ := Qgm ha;cases hv;exact (QlF w).mono fun e w' ⟨h1, h2⟩ => ⟨_, h1, by rw [h2]; exact Below.refl _ _, .int _ _⟩
theorem QmQ (n : Int) : GPure Tryz.prog 19 [.iface 52 (.int .i64 n)] (.int .i64 n) :=
 GPure.ofBelow (by kernel_rfl) fun E w vs hs ha => by
  obtain ⟨v, rfl, hv⟩ := Qgm ha;cases hv with
  | iface t v g h =>
   cases h;exact (QlH n w (QeZ hs)).mono fun e w' ⟨h1, h2⟩ => ⟨_, h1, h2, .int _ _⟩
theorem Qjz (gs : List GVal) (n : Int) (h32 : gs.length = 32) : GPure Tryz.prog 19 [.iface 113 (.ref (gs ++ [.iface 52 (.int .i64 n)]))] (.int .i64 n) :=
 GPure.ofBelow (by kernel_rfl) fun E w vs hs ha => by
  obtain ⟨v, rfl, hv⟩ := Qgm ha;cases hv with
  | iface t v g h =>
   cases h with
   | ref b off _ c hsn hc =>
    have h1 := hs.sealed _ _ _ (hsn 32 (by simp [h32]));have h2 := hc 32 _ (by rw [List.getElem?_append_right (by omega), h32]; rfl);generalize hq : c 32 = x at h1 h2;cases h2 with
    | iface t v g h3 =>
     cases h3;exact (Qi5 b off n w h1 (QeZ hs)).mono fun e w' ⟨h1, h2⟩ => ⟨_, h1, h2, .int _ _⟩
theorem Qu9 (t p : Addr) (old : Value) (W : World) (ht : W.cell? t = some old) (hf : W.frozen? t = false) :
 (Instr.storeAt 113 (.pointer (some t)) (.pointer (some p))).run Tryz.prog W = .ok () (W.setCell t (.pointer (some p))) := by
 have h84 : tab Tryz.prog 113 = some (1, false) := by kernel_rfl
 simp only [Instr.storeAt, Instr.sureAddr, storeVar, Sem.run_bind, Sem.run_pure, Result.andThen_ok, (QaU h84 W).1]
 simp [Value.cells, storeCells, Addr.add]
 rw [run_store Tryz.prog W t _ _ (by rfl)]
 simp [ht, hf]
theorem Qmg (gs : List GVal) (O : List GObj) (o st : Nat) (g0 : GVal) (hO : O[o]? = some (.row st 1 [[g0]])) (hsol : (GVal.ref gs).solid = true) :
 GCalls Tryz.prog 50 [.iface 113 (.ref gs), .iface 114 (.ptr o st 0 0)] O (fun g O' => g = .bool true ∧ O' = O.set o (.row st 1 [[.ref gs]])) := by
 refine ⟨by kernel_rfl, fun E w vs hs ha => ?_⟩
 obtain ⟨v, u, rfl, hv, hu⟩ := Qiv ha
 cases hv with
 | iface t v g h =>
  cases h with
  | ref b off _ c hsn hc =>
   cases hu with
   | iface t u g h =>
    cases h with
    | ptr b2 off2 o st i j l hl hb ho =>
     obtain ⟨l', hl', hls, hsz, hreal⟩ := hs.real _ _ hO;rw [hl] at hl'; cases hl';simp only [hb] at hreal;obtain ⟨cur, el, hw, hcur, htot, hrows, hsnap⟩ := hreal;have e2 : off2 < cur.size := by simp at htot; rw [hcur, ho]; omega
     have ht0 : w.cell? ⟨b2, off2, none⟩ = some cur[off2] := by
      simp [World.cell?, hw, e2]
     have hf0 : w.frozen? ⟨b2, off2, none⟩ = false := by
      simp [World.frozen?, hw]
     refine (Qpp ⟨b, off, none⟩ ⟨b2, off2, none⟩ _ w (QeZ hs) ht0 hf0).mono ?_;rintro ev w' ⟨rfl, rfl⟩;have htl := QcK ht0;have hBelow := ((((Below.refl w.heap.size w).alloc (Nat.le_refl _) (.cells #[.pointer (some ⟨b2, off2, none⟩)] 114)).alloc (by simp) (.cells #[.pointer (some ⟨2, 114, none⟩), .pointer (some ⟨w.heap.size, 0, none⟩), .int .u64 150] 143)).alloc (by simp; omega) (.cells #[.pointer (some ⟨2, 114, none⟩), .pointer (some ⟨w.heap.size, 0, none⟩), .int .u64 150] 143)).alloc (by simp; omega) (.cells #[.pointer (some ⟨b, off, none⟩)] 113);obtain ⟨s1, k1⟩ := hs.belowO hBelow;have ht4 : ((((w.alloc (.cells #[.pointer (some ⟨b2, off2, none⟩)] 114)).alloc (.cells #[.pointer (some ⟨2, 114, none⟩), .pointer (some ⟨w.heap.size, 0, none⟩), .int .u64 150] 143)).alloc (.cells #[.pointer (some ⟨2, 114, none⟩), .pointer (some ⟨w.heap.size, 0, none⟩), .int .u64 150] 143)).alloc (.cells #[.pointer (some ⟨b, off, none⟩)] 113)).cell? ⟨b2, off2, none⟩ = some cur[off2] := by
      have htl' : b2 < w.heap.size := htl;rw [World.cell?_alloc_lt _ _ _ (by simp; omega), World.cell?_alloc_lt _ _ _ (by simp; omega), World.cell?_alloc_lt _ _ _ (by simp; omega), World.cell?_alloc_lt _ _ _ htl']; exact ht0
     have hf4 : ((((w.alloc (.cells #[.pointer (some ⟨b2, off2, none⟩)] 114)).alloc (.cells #[.pointer (some ⟨2, 114, none⟩), .pointer (some ⟨w.heap.size, 0, none⟩), .int .u64 150] 143)).alloc (.cells #[.pointer (some ⟨2, 114, none⟩), .pointer (some ⟨w.heap.size, 0, none⟩), .int .u64 150] 143)).alloc (.cells #[.pointer (some ⟨b, off, none⟩)] 113)).frozen? ⟨b2, off2, none⟩ = false := by
      have htl' : b2 < w.heap.size := htl;rw [World.frozen?_alloc_old _ _ _ (by simp; omega), World.frozen?_alloc_old _ _ _ (by simp; omega), World.frozen?_alloc_old _ _ _ (by simp; omega), World.frozen?_alloc_old _ _ _ (Nat.ne_of_lt htl')]; exact hf0
     generalize ((((w.alloc (.cells #[.pointer (some ⟨b2, off2, none⟩)] 114)).alloc (.cells #[.pointer (some ⟨2, 114, none⟩), .pointer (some ⟨w.heap.size, 0, none⟩), .int .u64 150] 143)).alloc (.cells #[.pointer (some ⟨2, 114, none⟩), .pointer (some ⟨w.heap.size, 0, none⟩), .int .u64 150] 143)).alloc (.cells #[.pointer (some ⟨b, off, none⟩)] 113)) = w4 at s1 k1 ht4 hf4 ⊢;obtain ⟨w5, E5, O5, hrun, s5, k5, rfl⟩ := Qe0 (P := Tryz.prog) (t := 113) (g := .ptr o st 0 0) (v := .ref gs) (KU := fun O' => O' = O.set o (.row st 1 [[.ref gs]])) s1 (.ptr b2 off2 o st 0 0 l hl hb ho) (.ref b off gs c hsn hc) (by
      have h84 : tab Tryz.prog 113 = some (1, false) := by kernel_rfl
      simp only [QaM, h84, hO];simp [GVal.okCells, GVal.cells, splice, hsol])
     rw [Qu9 _ _ _ _ ht4 hf4] at hrun;cases hrun;exact ⟨_, _, _, _, rfl, s5, k1.trans k5, .bool true, rfl, rfl⟩
open Go Gv Go.Proofs
theorem Quv (h : Hs) (n : Int) : GPure Tryz.prog 22 [QgE h n] (.tuple [.agg (bytesG h.1), .bool true]) := by
 have hs33 : (GVal.ref (bytesG h.1 ++ [errG n])).solid = true := by simp [GVal.solid, Qeu, errG]
 refine h22.pa ?_
 refine vq0 ?_
 intro s1
 refine ⟨rfl, fun s2 => ?_⟩
 refine (Qmg (bytesG h.1 ++ [errG n]) _ 1 s2 _ rfl hs33).mono ?_
 rintro g O' ⟨rfl, rfl⟩
 refine vq5 @List.set.eq_1.{0} @List.set.eq_2.{0} @List.set.eq_3.{0} @QbB @v32 ?_
 have h32 : (bytesG h.1).length = 32 := len32 h
 have e1 : List.take 32 (bytesG h.1 ++ [errG n]) = bytesG h.1 := List.take_left' h32
 have e2 : ∀ X, List.take 32 (bytesG h.1 ++ X) = bytesG h.1 := fun X => List.take_left' h32
 simp only [e1, e2, h32, List.length_append]
 exact ⟨by omega, by simp, of_eq_true (Qeu h), trivial, by simp, of_eq_true (leG_self _)⟩
theorem Qnw (t : Addr) (w : World) : Calls Tryz.prog 50 #[.nilIface, .iface 114 (.pointer (some t))] w fun ev w' => ev = .returned (.bool false) ∧ w' = w := by
 go_enter Tryz.func50, Tryz.ntmps50
 go_wp2
 go_ret
 exact ⟨rfl, rfl⟩
theorem QpP (O : List GObj) (o st : Nat) : GCalls Tryz.prog 50 [.lit .nilIface, .iface 114 (.ptr o st 0 0)] O (fun g O' => g = .bool false ∧ O' = O) := by
 refine ⟨by kernel_rfl, fun E w vs hs ha => ?_⟩
 obtain ⟨v, u, rfl, hv, hu⟩ := Qiv ha
 cases hv
 cases hu with
 | iface t u g h =>
  cases h with
  | ptr b2 off2 o st i j l hl hb ho =>
   refine (Qnw ⟨b2, off2, none⟩ w).mono ?_;rintro ev w' ⟨rfl, rfl⟩;obtain ⟨s1, k1⟩ := hs.belowO (Below.refl _ _);exact ⟨_, _, _, _, rfl, s1, k1, .bool false, rfl, rfl⟩
theorem Qk7 : GPure Tryz.prog 22 [.lit .nilIface] (.tuple [.agg (bytesG h0.1), .bool false]) := by
 refine h22.pa ?_
 refine vq0 ?_
 intro s1
 refine ⟨rfl, fun s2 => ?_⟩
 refine (QpP _ 1 s2).mono ?_
 rintro g O' ⟨rfl, rfl⟩
 refine vq5 @List.set.eq_1.{0} @List.set.eq_2.{0} @List.set.eq_3.{0} @QbB @v32 ?_
 exact of_eq_true (leG_self _)
open Nat (reduceEqDiff reduceAdd reduceSub reduceLeDiff reduceMul reduceLT)
theorem rAdd (L : GM) (hL : SSC L) (hl : L.length ≤ 100000) (cs : List Cm) (t : Tag) (rt : Nat) (hc : cs.length ≤ 100000) (hp : ∀ c ∈ cs, c.2.length ≤ 100000) : GCalls Tryz.prog 32 [.ptr 0 rt 0 0, .slice (csG cs) t] (rObj rt L) (fun g O' => g = .tuple [] ∧ O' = rObj rt (QbW L cs)) := by
 refine h32.ca ?_
 refine vq0 ?_
 refine Qab (ι := { k : Nat // k ≤ cs.length }) (fun k => ⟨[.ptr 0 rt 0 0, .slice (csG cs) t, .any, .any, .int .i64 (k.1 : Nat)] ++ List.replicate 12 .any, rObj rt (QbW L (cs.take k.1))⟩) (fun k => cs.length - k.1) ?_ ?_
 · exact Into.first ⟨0, by omega⟩ ⟨[], by simp [QbW]⟩ (by simp [WL, leG_self, leG_any, Qaa])
 · rintro ⟨k, hk⟩;by_cases h : k < cs.length
   · have d0 : ((k : Int) < (cs.length : Int)) = True := eq_true (by omega);have eS := Qa0 cs k h;have hx := hp _ (memC h);have hsn := QfD L cs k h;have hXs := Qec (cs.take k) hL;have hXl := QeS (cs.take k) L;rw [List.length_take] at hXl;generalize cs.getD k default = x at *;have cP := rPut _ hXs (by omega) x (by omega) rt;obtain ⟨xh, xp⟩ := x;refine vq6 d0 eS @Qae @comG.eq_1 @Qi9 @Qj4 ?_;refine ⟨by omega, cP.mono ?_⟩;rintro g O' ⟨rfl, rfl⟩;refine vq0 ?_
     rw [← hsn];exact Into.at ⟨k + 1, by omega⟩ (by show cs.length - (k + 1) < cs.length - k; omega) ⟨[], by simp⟩ (by simp [WL, leG_self, leG_any, Qaa])
   · have d0 : ((k : Int) < (cs.length : Int)) = False := eq_false (by omega);refine vq2 d0 @Qae ?_;rw [List.take_of_length_le (by omega)]
abbrev qO (st s ti so rt nt : Nat) (m L : GM) (n : Int) (M O M2 O2 : List Hs) : List GObj := gObj st s m ++ (idO2 ti so n M O ++ (rObj rt L ++ nObj nt n M2 O2))
theorem Qho {α : Type} {Q : List α} {i : Nat} {x : α} (h : Q[i]? = some x) : Q.set i x = Q := by
 obtain ⟨h1, e⟩ := List.getElem?_eq_some_iff.1 h
 subst e
 exact List.set_getElem_self h1
theorem at54 {f : FuncId} {st s ti so rt nt : Nat} {m L : GM} {n : Int} {M O M2 O2 M3 O3 : List Hs} {r : GVal} {args : List GVal} (h : GCalls Tryz.prog f (.ptr 0 nt 0 0 :: .ptr 1 rt 0 0 :: args) (nObj nt n M2 O2 ++ rObj rt L) (fun g O' => g = r ∧ O' = nObj nt n M3 O3 ++ rObj rt L)) (X : List GObj) :
 GCalls Tryz.prog f (.ptr 5 nt 0 0 :: .ptr 4 rt 0 0 :: args) (qO st s ti so rt nt m L n M O M2 O2 ++ X) (fun g O' => g = r ∧ O' = qO st s ti so rt nt m L n M O M3 O3 ++ X) := by
 refine (GCalls.on2 (R := fun g x' y' => g = r ∧ x' = .row nt 3 [[.int .i64 n, .slice (hsG M3) .none, .slice (hsG O3) .none]] ∧ y' = .row rt 1 [[.slice (csG L) .none]]) (x := .row nt 3 [[.int .i64 n, .slice (hsG M2) .none, .slice (hsG O2) .none]]) (y := .row rt 1 [[.slice (csG L) .none]]) (h.mono (by
  rintro g O' ⟨rfl, rfl⟩;exact ⟨_, _, rfl, rfl, rfl, rfl⟩)) (args' := .ptr 5 nt 0 0 :: .ptr 4 rt 0 0 :: args) (O := qO st s ti so rt nt m L n M O M2 O2 ++ X) 5 4 (by decide) rfl rfl (.refl _) ⟨GLe.ptr _ _ _ _ _, GLe.ptr _ _ _ _ _, GLes.refl _⟩ rfl rfl (by rintro g x' y' ⟨_, rfl, rfl⟩; exact ⟨rfl, rfl⟩) rfl).mono ?_
 rintro g O' ⟨x', y', ⟨rfl, rfl, rfl⟩, rfl⟩
 exact ⟨rfl, rfl⟩
theorem atIJ {f : FuncId} {ti so : Nat} {n : Int} {M O : List Hs} {r : GVal} {args : List GVal} (h : GCalls Tryz.prog f (.ptr 0 ti 0 0 :: args) (idO ti so n M O) (fun g O' => g = r ∧ O' = idO ti so n M O)) (Q : List GObj) (i j : Nat) (hij : i ≠ j) (hi : Q[i]? = some (.row ti 4 [[.int .i64 n, .slice (hsG M) .none, .slice (hsG O) .none, .map j so]])) (hj : Q[j]? = some (.map so (kvG encI (ofM M O)))) (hc : Qad Q = none) :
 GCalls Tryz.prog f (.ptr i ti 0 0 :: args) Q (fun g O' => g = r ∧ O' = Q) := by
 refine (GCalls.on2 (R := fun g x' y' => g = r ∧ x' = .row ti 4 [[.int .i64 n, .slice (hsG M) .none, .slice (hsG O) .none, .map 1 so]] ∧ y' = .map so (kvG encI (ofM M O))) (h.mono (by
  rintro g O' ⟨rfl, rfl⟩;exact ⟨_, _, rfl, rfl, rfl, rfl⟩)) (args' := .ptr i ti 0 0 :: args) (O := Q) i j hij hi hj (OLe.row ⟨⟨GLe.refl _, GLe.refl _, GLe.refl _, GLe.map _ _ _, trivial⟩, trivial⟩) ⟨GLe.ptr _ _ _ _ _, GLes.refl _⟩ rfl rfl (by rintro g x' y' ⟨_, rfl, rfl⟩; exact ⟨rfl, rfl⟩) hc).mono ?_
 rintro g O' ⟨x', y', ⟨rfl, rfl, rfl⟩, rfl⟩
 refine ⟨rfl, ?_⟩
 show (Q.set i (.row ti 4 [[.int .i64 n, .slice (hsG M) .none, .slice (hsG O) .none, .map j so]])).set j _ = Q
 rw [Qho hi, Qho hj]
theorem uRem (m M : GM) (hG : GMOK m) (hk : (m.map (·.1)).Nodup) (l : List Hs) (t : Tag) (ht : t = .nil → l = []) (hl : l.length ≤ 10000) (e : Er) (he : QbM m (Qan (inM m l)) = e) (hM : QbL m (Qan (inM m l)) = M) (st s : Nat) (X : List GObj) :
 GCalls Tryz.prog 30 [.ptr 0 st 0 0, .slice (hsG l) t] (gObj st s m ++ X) (fun g O' => ∃ s', g = errV e ∧ O' = gObj st s' M ++ X) := by
 refine ((Qpl m hG hk st s l t ht hl).tail (by rintro g O' ⟨h1, s', rfl⟩; exact ⟨rfl, by simp⟩) rfl (by simp) X).mono ?_
 rintro g O' ⟨O1, ⟨rfl, s', rfl⟩, rfl⟩
 exact ⟨s', by rw [he], by rw [hM]⟩
abbrev Qid : Type := RR × Bool × List Int
def QbX (x : Qid) : List GVal := rrG x.1 ++ [.bool x.2.1, .slice (ints x.2.2) .none]
def stG (l : List Qid) : List (List GVal) := l.map QbX
theorem QdL (l : List Qid) : (stG l).length = l.length := by simp [stG]
theorem Qu4 (l : List Qid) (i : Nat) (h : i < l.length) : (stG l).getD i [] = rrG (l.getD i (default, false, [])).1 ++ [.bool (l.getD i (default, false, [])).2.1, .slice (ints (l.getD i (default, false, [])).2.2) .none] := by simp [stG, QbX, List.getD, h]
theorem Qk5 : Good ([] : GM) := ⟨⟨by simp, by simp⟩, by simp, by intro x y h; simp [parsM, look] at h, by
 intro x h
 cases h with
 | base _ h => simp [parsM, look] at h
 | step _ _ _ h => simp [parsM, look] at h⟩
structure PInv (l : List Qid) (k : Nat) (m L : GM) (M O : List Hs) : Prop where
 kl : k ≤ l.length
 k8 : k ≤ 8
 good : Good m
 ss : SSC L
 alike : QaX m L
 num : Qgh m M O
def zb43 := ai @QaC <| ai @List.append_nil.{0} <| ai @List.set.eq_1.{0} <| ai @List.set.eq_2.{0} <| ai @List.set.eq_3.{0} <| @v32
def zb44 := ai @List.set.eq_1.{0} <| ai @List.set.eq_2.{0} <| @List.set.eq_3.{0}
def zb45 := ai @chkV.eq_1 <| ai @chkV.eq_2 <| ai @chkV.eq_3 <| ai @QaC <| ai @List.append_nil.{0} <| ai @List.set.eq_1.{0} <| ai @List.set.eq_2.{0} <| ai @List.set.eq_3.{0} <| ai @vnT <| @v32
def zb46 := ai @QaC <| ai @List.append_nil.{0} <| ai @List.set.eq_1.{0} <| ai @List.set.eq_2.{0} <| ai @List.set.eq_3.{0} <| ai @vnT <| @v32
def zb47 := ai @errV.eq_1 <| ai @errV.eq_2 <| ai @errV.eq_3 <| ai @QaC <| ai @List.append_nil.{0} <| ai @List.set.eq_1.{0} <| ai @List.set.eq_2.{0} <| ai @List.set.eq_3.{0} <| ai @vnT <| @v32
theorem QmM (most : Int) (l : List Qid) : GPure Tryz.prog 5 [.int .i64 most, .slice (stG l) .none] (.bool true) := by
 have cPick := Qf1 most 60 (by decide) (by decide)
 obtain ⟨q, hq⟩ : ∃ q, most % 60 = q := ⟨_, rfl⟩
 have hq0 : 0 ≤ q ∧ q < 60 := by omega
 rw [hq] at cPick
 have en : norm .i64 (1 + q) = 1 + q := QaZ (by omega)
 obtain ⟨n, hn⟩ : ∃ n, 1 + q = n := ⟨_, rfl⟩
 have hn1 : 1 ≤ n ∧ n ≤ 60 := by omega
 rw [hn] at en
 clear hq
 refine GCalls.toPure ?_
 refine h5.ca ?_
 refine vq0 ?_
 refine cPick.then ?_ (by rfl)
 refine vq2 hn en ?_
 refine gNew.mono ?_
 rintro g O' ⟨st, s, rfl, rfl⟩
 refine vq0 ?_
 refine (Quy [] st s n hn1.1 (by omega)).mono ?_
 rintro g O' ⟨ti, so, rfl, rfl⟩
 refine vq0 ?_
 refine QuZ.then ?_ (by rfl)
 refine vq1 Tryz.underlying28 ?_
 intro rt nt
 refine Qab (ι := { p : ((Nat × Nat) × Nat) × ((GM × GM) × (List Hs × List Hs)) // PInv l p.1.1.1 p.2.1.1 p.2.1.2 p.2.2.1 p.2.2.2 }) (fun p => ⟨[.int .i64 n, .slice (stG l) .none, .any, .any, .any, .ptr 0 st 0 0, .ptr 2 ti 0 0, .any, .ptr 4 rt 0 0, .ptr 5 nt 0 0, .int .i64 (p.1.1.1.1 : Nat)] ++ List.replicate 193 .any, qO st p.1.1.1.2 ti p.1.1.2 rt nt p.1.2.1.1 p.1.2.1.2 n p.1.2.2.1 p.1.2.2.2 p.1.2.2.1 p.1.2.2.2⟩) (fun p => 8 - p.1.1.1.1) ?_ ?_
 · refine Into.rowLe 4 [[.slice [] .nil]] [[.slice (csG []) .none]] rfl ⟨⟨GLe.none, trivial⟩, trivial⟩ ?_;refine Into.rowLe 5 [[.int .i64 n, .slice [] .nil, .slice [] .nil]] [[.int .i64 n, .slice (hsG []) .none, .slice (hsG []) .none]] rfl ⟨⟨GLe.refl _, GLe.none, GLe.none, trivial⟩, trivial⟩ ?_;exact Into.first ⟨(((0, s), so), (([], []), ([], []))), ⟨Nat.zero_le _, Nat.zero_le _, Qk5, List.Pairwise.nil, fun _ => rfl, ⟨List.nodup_nil, fun x => by simp [look], trivial⟩⟩⟩ ⟨[], by simp⟩ (by simp [WL, leG_self, leG_any])
 · clear s so;rintro ⟨⟨⟨⟨k, s⟩, so⟩, ⟨⟨m, L⟩, ⟨M, O⟩⟩⟩, hI⟩;obtain ⟨hkl, hk8, hm, hL, hA, hN⟩ : PInv l k m L M O := hI;have hgL := QbY hm hA hL;have hml := hm.ok.len;have hll := hgL.ok.len;have hMO := Qh6 hN hm.keys;rw [List.length_append] at hMO;by_cases h : k < l.length ∧ k < 8
   · have d0 : ((k : Int) < (l.length : Int)) = True := eq_true (by omega);have d1 : ((k : Int) < 8) = True := eq_true (by omega);have eL := Qu4 l k h.1;obtain ⟨x, ex⟩ : ∃ x, l.getD k (default, false, []) = x := ⟨_, rfl⟩
     rw [ex] at eL;obtain ⟨rr, sb, ask⟩ := x;cases sb with
     | true =>
      refine vq4 d0 d1 eL @QdL ?_;refine ⟨by omega, ?_⟩;refine Qab (ι := { p : Nat × Nat // p.1 ≤ ask.length ∧ p.1 ≤ 4 }) (fun p => ⟨[.int .i64 n, .slice (stG l) .none, .any, .any, .any, .ptr 0 st 0 0, .ptr 2 ti 0 0, .any, .ptr 4 rt 0 0, .ptr 5 nt 0 0, .int .i64 (k : Nat), .slice (hsG (QfT ask p.1.1)) (.tok 6 p.1.2), .int .i64 (p.1.1 : Nat)] ++ List.replicate 191 .any, qO st s ti so rt nt m L n M O M O ++ [.tok p.1.2 32]⟩) (fun p => 4 - p.1.1) ?_ ?_
      · refine Into.tok 11 32 [] rfl rfl ?_;refine vq0 ?_;intro v;exact Into.first ⟨(0, v), Nat.zero_le _, Nat.zero_le _⟩ ⟨[], rfl⟩ (by simp [WL, leG_self, leG_any, QfT, hsG])
      · rintro ⟨⟨j, v⟩, hj, hj4⟩
        change j ≤ ask.length at hj
        change j ≤ 4 at hj4
        have tl := QjY ask j;by_cases h' : j < ask.length ∧ j < 4
        · have dj : ((j : Int) < (ask.length : Int)) = True := eq_true (by omega);have dj4 : ((j : Int) < 4) = True := eq_true (by omega);have eA := Qdb ask j h'.1;have eN := Qi6 ask j;generalize ask.getD j 0 = y at *;refine vq6 dj dj4 eA @Qbu eL @QdL ?_;refine ⟨by omega, by omega, by omega, by omega, by omega, ?_⟩;refine (QdR y).then ?_ (by rfl)
          refine vq6 @hsG_len tl @all_hsG @QaC @List.append_nil.{0} @v32 ?_;refine ⟨by omega, by omega, fun v2 => ?_⟩
          rw [← eN];exact Into.at ⟨(j + 1, v2), h'.1, h'.2⟩ (by show 4 - (j + 1) < 4 - j; omega) ⟨[], rfl⟩ (by simp [WL, leG_self, leG_any, Qaa])
        · have hc2 : (((j : Int) < (ask.length : Int)) = True ∧ ((j : Int) < 4) = False) ∨ (((j : Int) < (ask.length : Int)) = False ∧ (True = True)) := by
           by_cases hh : j < ask.length
           · exact .inl ⟨eq_true (by omega), eq_false (by omega)⟩
           · exact .inr ⟨eq_false (by omega), rfl⟩
          have hHl : (QfT ask j).length ≤ 4 := by omega
          generalize QfT ask j = H at *;have hDl := QmN hgL H;have eD := Qhl hm hgL hA H;by_cases hb : ∃ x ∈ H, x ∈ M
          · obtain ⟨A, z, B, eH, hAz, hz⟩ := QiP (p := fun x => decide (x ∈ M)) (L := H) (by
             obtain ⟨x, h1, h2⟩ := hb;exact ⟨x, h1, decide_eq_true h2⟩)
            have hz : z ∈ M := of_decide_eq_true hz;have hmas : ∀ x, Qar (ofM M O) x = decide (x ∈ M) := Qdt hN.nd (by omega);have c1 := fun X => at54 (m := m) (st := st) (s := s) (ti := ti) (so := so) (M := M) (O := O) (QnD L nt rt n M O (by omega) H (.tok 6 v) (by omega) A B z eH (fun a ha => of_decide_eq_false (hAz a ha)) hz) X
            have c2 := fun X => GCalls.tail (QnJ m hm.gm ti st s so n M O H (.tok 6 v) (by simp) (by omega) (by rw [eD]; omega) A (B ++ desL m H) z (by rw [eH]; simp) (fun x hx => by rw [hmas]; exact hAz x hx) (by rw [hmas]; exact decide_eq_true hz)) (by rintro g O' ⟨rfl, rfl⟩; exact ⟨rfl, by simp⟩) rfl (by simp) X
            have c3 := Quv z 19;have c4 := Qjz (bytesG z.1) 19 (len32 z);have ce := QaA z z;rw [decide_eq_true rfl] at ce;have cAl := fun X => GCalls.tail (QiI st s ti so rt nt m L n M O hN.nd (by omega) (by omega) (by omega)) (by rintro g O' ⟨rfl, rfl⟩; exact ⟨rfl, by simp⟩) rfl (by simp) X
            rcases hc2 with ⟨dj, dj4⟩ | ⟨dj, dj4⟩
            all_goals
             refine vq5 dj dj4 @Qbu eL @QdL ?_;refine ⟨by omega, by omega, ?_⟩;refine (c1 [.tok v 32]).mono ?_;rintro g O' ⟨rfl, rfl⟩;refine vq1 zb43 ?_;intro s15;refine (c2 [.row rt 1 [[.slice (csG L) .none]], .row nt 3 [[.int .i64 n, .slice (hsG M) .none, .slice (hsG O) .none]], .tok v 32, .row s15 32 [bytesG z.1]]).mono ?_;rintro g O' ⟨O1, ⟨rfl, rfl⟩, rfl⟩;refine vq1 zb43 ?_;refine c3.then ?_ (by rfl)
             refine vq1 zb43 ?_;intro s17;refine c4.then ?_ (by rfl)
             refine vq2 ce zb43 ?_;refine ⟨fun h => absurd trivial h, fun _ => ?_, fun h => absurd h (by decide)⟩;refine (cAl [.tok v 32, .row s15 32 [bytesG z.1], .row s17 32 [bytesG z.1]]).mono ?_;rintro g O' ⟨O1, ⟨rfl, rfl⟩, rfl⟩;refine vq0 ?_;exact Into.at ⟨(((k + 1, s), so), ((m, L), (M, O))), ⟨show k + 1 ≤ l.length by omega, show k + 1 ≤ 8 by omega, hm, hL, hA, hN⟩⟩ (by show 8 - (k + 1) < 8 - k; omega) ⟨_, rfl⟩ (by simp [WL, leG_self, leG_any, Qaa])
          · have hno : ∀ x ∈ H, x ∉ M := fun x h1 h2 => hb ⟨x, h1, h2⟩
            have hmas : ∀ x, Qar (ofM M O) x = decide (x ∈ M) := Qdt hN.nd (by omega);obtain ⟨eW, hN'⟩ := QjA hm hL hA hN hno;have hfr : ∀ x ∈ H ++ desL m H, Qar (ofM M O) x = false := fun x hx => by
             rw [hmas];refine decide_eq_false ?_;rcases List.mem_append.1 hx with q | q
             · exact hno x q
             · exact QfH hm hN hno q
            have hE := Qie hm hL hA (desL L H);have hrm := Qhm hm hL hA H;rw [hrm, Option.map_none] at hE;obtain ⟨gM, sK, aK⟩ := Qk6 hm hL hA (desL L H);have hWl : (Qat O (desL L H)).length ≤ O.length := List.length_filter_le _ _;have c1 := fun X => at54 (m := m) (st := st) (s := s) (ti := ti) (so := so) (M := M) (O := O) (QnE L hL hgL nt rt n M O (by omega) (by omega) H (.tok 6 v) (by omega) hno (by omega)) X
            have c2 := fun X => GCalls.tail (QlK m hm.gm ti st s so n M O H (.tok 6 v) (by simp) (by omega) (by rw [eD]; omega) (by omega) (by omega) hfr) (by rintro g O' ⟨so', rfl, rfl⟩; exact ⟨rfl, by simp⟩) rfl (by simp) X
            rw [eW] at c2;have c3 := Qk7;have c4 := QiQ;have c5 := fun so' (X : List GObj) => GCalls.own1' (Qpn L hgL (desL L H) .none (by omega) rt) (O := qO st s ti so' rt nt m L n M (Qat O (desL L H)) M (Qat O (desL L H)) ++ X) (O2 := qO st s ti so' rt nt m (rRmN L (desL L H)) n M (Qat O (desL L H)) M (Qat O (desL L H)) ++ X) (args' := [.ptr 4 rt 0 0, .slice (hsG (desL L H)) .none]) 4 rfl rfl rfl rfl rfl rfl
            rw [hrm] at c5;obtain ⟨m', em⟩ : ∃ m', QbL m (Qan (inM m (desL L H))) = m' := ⟨_, rfl⟩
            have c6 := fun X => uRem m m' hm.gm hm.keys (desL L H) .none (by simp) (by omega) none hE em st s X
            rw [em] at gM aK hN';have gL' := QbY gM aK sK;have hml' := gM.ok.len;have hll' := gL'.ok.len;generalize rRmN L (desL L H) = L' at *;generalize Qat O (desL L H) = W at *;generalize desL L H = D at *;have cAl := fun s' so' X => GCalls.tail (QiI st s' ti so' rt nt m' L' n M W hN'.nd (by omega) (by omega) (by omega)) (by rintro g O' ⟨rfl, rfl⟩; exact ⟨rfl, by simp⟩) rfl (by simp) X
            rcases hc2 with ⟨dj, dj4⟩ | ⟨dj, dj4⟩
            all_goals
             refine vq5 dj dj4 @Qbu eL @QdL ?_;refine ⟨by omega, by omega, ?_⟩;refine (c1 [.tok v 32]).mono ?_;rintro g O' ⟨rfl, rfl⟩;refine vq1 zb43 ?_;intro s15;refine (c2 [.row rt 1 [[.slice (csG L) .none]], .row nt 3 [[.int .i64 n, .slice (hsG M) .none, .slice (hsG W) .none]], .tok v 32, .row s15 32 [bytesG h0.1]]).mono ?_;rintro g O' ⟨O1, ⟨so', rfl, rfl⟩, rfl⟩;refine vq1 zb43 ?_;refine c3.then ?_ (by rfl)
             refine vq1 zb43 ?_;intro s17;refine c4.then ?_ (by rfl)
             refine vq8 @QaC @List.append_nil.{0} @List.set.eq_1.{0} @List.set.eq_2.{0} @List.set.eq_3.{0} @rRmV.eq_1 @rRmV.eq_2 @v32 ?_;refine ⟨fun h => absurd trivial h, fun h => absurd trivial h, ?_⟩;refine (c5 so' [.tok v 32, .row s15 32 [bytesG h0.1], .row s17 32 [bytesG h0.1]]).mono ?_;rintro g O' ⟨rfl, rfl⟩;refine vq0 ?_;refine (c6 _).mono ?_;rintro g O' ⟨s', rfl, rfl⟩;refine vq4 @errV.eq_1 @errV.eq_2 @errV.eq_3 Tryz.underlying28 ?_;refine (cAl s' so' [.tok v 32, .row s15 32 [bytesG h0.1], .row s17 32 [bytesG h0.1]]).mono ?_;rintro g O' ⟨O1, ⟨rfl, rfl⟩, rfl⟩;refine vq0 ?_;exact Into.at ⟨(((k + 1, s'), so'), ((m', L'), (M, W))), ⟨show k + 1 ≤ l.length by omega, show k + 1 ≤ 8 by omega, gM, sK, aK, hN'⟩⟩ (by show 8 - (k + 1) < 8 - k; omega) ⟨_, rfl⟩ (by simp [WL, leG_self, leG_any, Qaa])
     | false =>
      refine vq4 d0 d1 eL @QdL ?_;refine ⟨by omega, by omega, ?_⟩;refine (QjT rr (qO st s ti so rt nt m L n M O M O) rfl).mono ?_;rintro g O' ⟨cs, hs, gr, hr, rfl, rfl⟩;have hcl := hr.len;have hhl := hr.hd;have hpl : ∀ c ∈ cs, c.2.length ≤ 100000 := fun c hc => by have := hr.par c hc; omega
      have hpm : ∀ c ∈ cs, c.2.length ≤ 1000000 := fun c hc => by have := hr.par c hc; omega
      have cX := fun (X : List GObj) => GCalls.keep1' (Qu5 L hL hgL cs hs .none gr rt (by omega) (by omega) hpm) (O := qO st s ti so rt nt m L n M O M O ++ X) (args' := [.ptr 4 rt 0 0, .agg (reqG cs hs .none gr)]) 4 rfl rfl rfl rfl
      rcases Qgy hA hm.keys (QcA hL) gr cs hs with ⟨e, e1, e2⟩ | ⟨m1, M', e1, e2, H⟩
      · have ec : Qbk gr L cs hs = some e := by unfold Qbk; rw [e2]
        have ep := QoD e2;rw [ec] at cX;obtain ⟨eh, ee⟩ := e
        change ee ≠ 0 at ep
        have dn : (ee = 0) = False := eq_false ep;cases eh
        all_goals
         refine vq1 zb44 ?_;intro sx;refine (cX [.row sx 3 [reqG cs hs .none gr]]).mono ?_;rintro g O' ⟨rfl, rfl⟩;refine vq10 @chkV.eq_1 @chkV.eq_2 @chkV.eq_3 dn @QaC @List.append_nil.{0} @List.set.eq_1.{0} @List.set.eq_2.{0} @List.set.eq_3.{0} @v32 ?_;intro sw;exact Into.at ⟨(((k + 1, s), so), ((m, L), (M, O))), ⟨show k + 1 ≤ l.length by omega, show k + 1 ≤ 8 by omega, hm, hL, hA, hN⟩⟩ (by show 8 - (k + 1) < 8 - k; omega) ⟨_, rfl⟩ (by simp [WL, leG_self, leG_any, Qaa])
      · have ec : Qbk gr L cs hs = none := by unfold Qbk; rw [e2]
        have ja := Qjp e1;have hm1 := Qek hm e1;have sL1 := Qec cs hL;have hA1 := Qhn hA (Qdh e1).2.1;rw [ec] at cX;have cAd := fun (X : List GObj) => GCalls.own1' (rAdd L hL (by omega) cs .none rt (by omega) hpl) (O := qO st s ti so rt nt m L n M O M O ++ X) (O2 := qO st s ti so rt nt m (QbW L cs) n M O M O ++ X) (args' := [.ptr 4 rt 0 0, .slice (csG cs) .none]) 4 rfl rfl rfl rfl rfl rfl
        have cA := fun X => iAdd m m1 hm.ok cs none (by unfold Qdr; rw [ja]) (by unfold Qds; rw [ja]) st s (by omega) hpm X (GLes.refl _)
        have hP := QmO hm hN e1 hA1 n;generalize QbW L cs = L1 at *;have hg1 := QbY hm1 hA1 sL1;have hml1 := hm1.ok.len;have hll1 := hg1.ok.len;rcases hP with ⟨rfl, T, hT, hTr, hn2, hTl⟩ | ⟨M1, O1, T2, hcase, hT2, hN1, b1, b2, hk, hgr, hTr⟩
        · have cU := fun s' X => at54 (m := m1) (st := st) (s := s') (ti := ti) (so := so) (M := M) (O := O) (QmF L1 sL1 hg1 nt rt n M O (by omega) cs hs .none (by omega) T hTr (by omega) hn2) X
          have cI := fun s' X => GCalls.tail (QmP m1 hm1.gm ti st s' so cs hs .none n M O T hT (by omega) (by omega) (by omega) hn2) (by rintro g O' ⟨rfl, rfl⟩; exact ⟨rfl, by simp⟩) rfl (by simp) X
          have c4 := QmQ 13;have cAl := fun s' X => GCalls.tail (QiI st s' ti so rt nt m1 L1 n M O hN.nd (by omega) (by omega) (by omega)) (by rintro g O' ⟨rfl, rfl⟩; exact ⟨rfl, by simp⟩) rfl (by simp) X
          refine vq1 zb44 ?_;intro sx;refine (cX [.row sx 3 [reqG cs hs .none 1]]).mono ?_;rintro g O' ⟨rfl, rfl⟩;refine vq1 zb45 ?_;intro sw;refine (cAd [.row sx 3 [reqG cs hs .none 1], .row sw 32 [bytesG h0.1]]).mono ?_;rintro g O' ⟨rfl, rfl⟩;refine vq1 zb46 ?_;refine (cA _).mono ?_;rintro g O' ⟨s', rfl, rfl⟩;refine vq2 Tryz.underlying28 zb47 ?_;refine (Qp5 st s' ti so rt nt m1 L1 n M O sx 3 sw 32 _ _).mono ?_;rintro g O' ⟨tc, sc, rfl, rfl⟩;refine vq1 zb46 ?_;refine (cU s' [.row sx 3 [reqG cs hs .none 1], .row sw 32 [bytesG h0.1], .row tc 4 [[.int .i64 n, .slice (hsG M) .none, .slice (hsG O) .none, .map 9 sc]], .map sc (kvG encI (ofM M O))]).mono ?_;rintro g O' ⟨rfl, rfl⟩;refine vq1 zb46 ?_;refine (cI s' _).mono ?_;rintro g O' ⟨O1, ⟨rfl, rfl⟩, rfl⟩;refine vq1 zb46 ?_;refine c4.then ?_ (by rfl)
          refine vq1 zb46 ?_;refine ⟨fun _ => ?_, fun h => absurd h (by decide)⟩;refine (cAl s' [.row sx 3 [reqG cs hs .none 1], .row sw 32 [bytesG h0.1], .row tc 4 [[.int .i64 n, .slice (hsG M) .none, .slice (hsG O) .none, .map 9 sc]], .map sc (kvG encI (ofM M O))]).mono ?_;rintro g O' ⟨O1, ⟨rfl, rfl⟩, rfl⟩;refine vq1 zb46 ?_;refine (atIJ (args := []) (Qd4 tc sc n M O) _ 8 9 (by decide) rfl rfl rfl).mono ?_;rintro g O' ⟨rfl, rfl⟩;refine vq1 zb46 ?_;refine (iAt2 (args := []) (Qd4 ti so n M O) _ _ rfl _).mono ?_;rintro g O' ⟨rfl, rfl⟩;refine vq1 zb46 ?_;refine (atIJ (args := []) (QfO tc sc n M O) _ 8 9 (by decide) rfl rfl rfl).mono ?_;rintro g O' ⟨rfl, rfl⟩;refine vq1 zb46 ?_;refine (iAt2 (args := []) (QfO ti so n M O) _ _ rfl _).mono ?_;rintro g O' ⟨rfl, rfl⟩;refine vq1 zb46 ?_;exact ⟨1, .bool true, rfl, by rw [Qea]⟩
        · have cU := fun s' X => at54 (m := m1) (st := st) (s := s') (ti := ti) (so := so) (M := M) (O := O) (rUpd L1 sL1 hg1 nt rt n M O (by omega) (by omega) cs hs .none (by omega) (by omega) gr M1 T2 hgr hTr (by omega)) X
          rw [hk] at cU;have cI := fun s' X => Qpa (QhJ m1 hm1.gm ti st s' so cs hs .none (by simp) gr n M O M1 O1 hcase T2 hT2 (by omega) (by omega) (by omega) (by omega) (by omega) (by omega)) (GLes.refl _) X
          have c4 := QiQ;have cAl := fun s' so' X => GCalls.tail (QiI st s' ti so' rt nt m1 L1 n M1 (O1 ++ T2.2) hN1.nd (by omega) (by rw [List.length_append]; omega) (by omega)) (by rintro g O' ⟨rfl, rfl⟩; exact ⟨rfl, by simp⟩) rfl (by simp) X
          refine vq1 zb44 ?_;intro sx;refine (cX [.row sx 3 [reqG cs hs .none gr]]).mono ?_;rintro g O' ⟨rfl, rfl⟩;refine vq1 zb45 ?_;intro sw;refine (cAd [.row sx 3 [reqG cs hs .none gr], .row sw 32 [bytesG h0.1]]).mono ?_;rintro g O' ⟨rfl, rfl⟩;refine vq1 zb46 ?_;refine (cA _).mono ?_;rintro g O' ⟨s', rfl, rfl⟩;refine vq2 Tryz.underlying28 zb47 ?_;refine (Qp5 st s' ti so rt nt m1 L1 n M O sx 3 sw 32 _ _).mono ?_;rintro g O' ⟨tc, sc, rfl, rfl⟩;refine vq1 zb46 ?_;refine (cU s' [.row sx 3 [reqG cs hs .none gr], .row sw 32 [bytesG h0.1], .row tc 4 [[.int .i64 n, .slice (hsG M) .none, .slice (hsG O) .none, .map 9 sc]], .map sc (kvG encI (ofM M O))]).mono ?_;rintro g O' ⟨rfl, rfl⟩;refine vq1 zb46 ?_;refine (cI s' _).mono ?_;rintro g O' ⟨so', rfl, rfl⟩;refine vq1 zb46 ?_;refine c4.then ?_ (by rfl)
          refine vq1 zb46 ?_;refine (cAl s' so' [.row sx 3 [reqG cs hs .none gr], .row sw 32 [bytesG h0.1], .row tc 4 [[.int .i64 n, .slice (hsG M) .none, .slice (hsG O) .none, .map 9 sc]], .map sc (kvG encI (ofM M O))]).mono ?_;rintro g O' ⟨O1, ⟨rfl, rfl⟩, rfl⟩;refine vq1 zb46 ?_;exact Into.at ⟨(((k + 1, s'), so'), ((m1, L1), (M1, O1 ++ T2.2))), ⟨show k + 1 ≤ l.length by omega, show k + 1 ≤ 8 by omega, hm1, sL1, hA1, hN1⟩⟩ (by show 8 - (k + 1) < 8 - k; omega) ⟨_, rfl⟩ (by simp [WL, leG_self, leG_any, Qaa])
   · have hcase : (((k : Int) < (l.length : Int)) = True ∧ ((k : Int) < 8) = False) ∨ (((k : Int) < (l.length : Int)) = False ∧ (True = True)) := by
      by_cases hh : k < l.length
      · exact .inl ⟨eq_true (by omega), eq_false (by omega)⟩
      · exact .inr ⟨eq_false (by omega), rfl⟩
     rcases hcase with ⟨d0, d1⟩ | ⟨d0, d1⟩
     all_goals
      refine vq3 d0 d1 @QdL ?_;exact ⟨1, .bool true, rfl, by rw [Qea]⟩
end Gv.Tryz
namespace Gv
open Go
theorem QeX {α : Type} {e : Sh} (enc : α → List GVal) (ok : α → Prop) (he : ∀ {x}, Den e x → ∃ a, x = enc a ∧ ok a) {gs : List GVal} (h : Den (.slice e) gs) : ∃ l : List α, gs = [.slice (l.map enc) .none] ∧ l.length ≤ maxLen ∧ ∀ a ∈ l, ok a := by
 obtain ⟨xs, rfl, hl, hx⟩ := h
 have : ∀ xs : List (List GVal), (∀ x ∈ xs, Den e x) → ∃ l : List α, xs = l.map enc ∧ ∀ a ∈ l, ok a := by
  intro xs;induction xs with
  | nil => exact fun _ => ⟨[], rfl, by simp⟩
  | cons a r ih =>
   intro h;obtain ⟨l, rfl, hl⟩ := ih fun x hx => h x (by simp [hx]);obtain ⟨n, rfl, hn⟩ := he (h a (by simp));exact ⟨n :: l, rfl, by simpa using ⟨hn, hl⟩⟩
 obtain ⟨l, rfl, h2⟩ := this xs hx
 exact ⟨l, rfl, by simpa using hl, h2⟩
end Gv
namespace Gv.Tryz
open Go Gv Go.Proofs
abbrev rawS : Sh := .agg [.int .i64, .int .i64, .slice (.int .i64)]
abbrev rrS : Sh := .agg [.slice rawS, .slice (.int .i64), .int .i64, .int .i64]
theorem Qgt {gs : List GVal} (h : Den (.slice (.int .i64)) gs) : ∃ l : List Int, gs = [.slice (ints l) .none] := by
 obtain ⟨l, rfl, _⟩ := QeX (fun n : Int => [.int .i64 n]) (fun n => (Lit.int .i64 n).wf = true) (fun {x} (h : Den (.int .i64) x) => h) h
 exact ⟨l, rfl⟩
theorem QpA {gs : List GVal} (h : Den rawS gs) : ∃ r : RC, gs = rawC r ∧ True := by
 obtain ⟨ps, rfl, p, q, rfl, ⟨a, rfl, _⟩, p2, q2, rfl, ⟨b, rfl, _⟩, p3, q3, rfl, h3, rfl⟩ := h
 obtain ⟨l, rfl⟩ := Qgt h3
 exact ⟨(a, b, l), rfl, trivial⟩
theorem Qve {gs : List GVal} (h : Den rrS gs) : ∃ r : RR, gs = rrG r ∧ True := by
 obtain ⟨ps, rfl, p, q, rfl, h1, p2, q2, rfl, h2, p3, q3, rfl, ⟨c, rfl, _⟩, p4, q4, rfl, ⟨d, rfl, _⟩, rfl⟩ := h
 obtain ⟨l, rfl, _, _⟩ := QeX rawC (fun _ => True) (fun {x} h => QpA h) h1
 obtain ⟨hs, rfl⟩ := Qgt h2
 exact ⟨⟨l, hs, c, d⟩, rfl, trivial⟩
abbrev stS : Sh := .agg [rrS, .bool, .slice (.int .i64)]
theorem Qvp {gs : List GVal} (h : Den stS gs) : ∃ x : Qid, gs = QbX x ∧ True := by
 obtain ⟨ps, rfl, p1, q1, rfl, h1, p2, q2, rfl, ⟨b, rfl⟩, p3, q3, rfl, h3, rfl⟩ := h
 obtain ⟨r, rfl, _⟩ := Qve h1
 obtain ⟨a, rfl⟩ := Qgt h3
 exact ⟨(r, b, a), by simp [QbX], trivial⟩
theorem wPlay {g0 g1 : List GVal} (h0 : Den (.int .i64) g0) (h1 : Den (.slice stS) g1) : GPure Tryz.prog 5 ([Sh.val (.int .i64) g0, Sh.val (.slice stS) g1]) (.bool true) := by
 obtain ⟨c, rfl, _⟩ := h0
 obtain ⟨l, rfl, _, _⟩ := QeX QbX (fun _ => True) (fun {x} h => Qvp h) h1
 exact QmM c l
end Gv.Tryz
namespace Gv
open Go Go.RowKit Go.WideShapes Go.ChangeShapes
namespace Z
inductive Sh where
 | int (k : IntKind)
 | bool
 | str
 | slice (e : Sh)
 | agg (l : List Sh)
 | arr (n : Nat) (e : Sh)
mutual
def Sh.size : Sh → Nat
 | .agg l => Sh.sizes l
 | .arr n e => n * e.size
 | _ => 1
def Sh.sizes : List Sh → Nat
 | [] => 0
 | s :: r => s.size + Sh.sizes r
end
mutual
def Sh.low : Sh → Nat
 | .int .i64 => 8
 | .int .u64 => 8
 | .int _ => 1
 | .bool => 1
 | .str => 16
 | .slice _ => 24
 | .agg l => Sh.lows l
 | .arr n e => n * e.low
def Sh.lows : List Sh → Nat
 | [] => 0
 | s :: r => s.low + Sh.lows r
end
mutual
def shB (P : Program) : Sh → TypeId → Bool
 | .int k, t => match P.underlying t with
  | some (.int k') => k = k'
  | _ => false
 | .bool, t => match P.underlying t with
  | some .bool => true
  | _ => false
 | .str, t => match P.underlying t with
  | some .string => true
  | _ => false
 | .slice e, t => match P.underlying t with
  | some (.slice et) => shB P e et && P.cellsOf et == e.size && decide (0 < e.size) && decide (e.low ≤ P.bytesOf et)
  | _ => false
 | .agg l, t => match P.underlying t with
  | some (.struct fs) => shBs P l fs.toList 0 && P.cellsOf t == Sh.sizes l
  | _ => false
 | .arr n e, t => match P.underlying t with
  | some (.array n' et) => n == n' && shB P e et && P.cellsOf et == e.size && P.cellsOf t == n * e.size
  | _ => false
def shBs (P : Program) : List Sh → List Field → Nat → Bool
 | [], [], _ => true
 | s :: r, f :: fs, o => f.offset == o && P.cellsOf f.type == s.size && shB P s f.type && shBs P r fs (o + s.size)
 | _, _, _ => false
end
mutual
def Den : Sh → List GVal → Prop
 | .int k, gs => ∃ n, gs = [.int k n] ∧ (Lit.int k n).wf = true
 | .bool, gs => ∃ b, gs = [.bool b]
 | .str, gs => ∃ s, gs = [.str s] ∧ s.length ≤ reachBytes
 | .slice e, gs => ∃ xs, gs = [.slice xs .none] ∧ (xs.length ≤ maxLen ∧ xs.length * e.low ≤ reachBytes) ∧ ∀ x ∈ xs, Den e x
 | .agg l, gs => ∃ ps, gs = ps.flatten ∧ Dens l ps
 | .arr n e, gs => ∃ ps : List (List GVal), gs = ps.flatten ∧ ps.length = n ∧ ∀ p ∈ ps, Den e p ∧ p.length = e.size
def Dens : List Sh → List (List GVal) → Prop
 | [], ps => ps = []
 | s :: r, ps => ∃ p q, ps = p :: q ∧ Den s p ∧ Dens r q
end
theorem Qh4 {H : Type} {P : Program} {e : TypeId} : ∀ {ds : List (DataW H)} {d : DataW H}, d ∈ ds → ∀ n ∈ d.weights P e, n ∈ DataW.weightsAll P e ds
 | a :: r, d, hd, n, hn => by
  simp only [DataW.weightsAll, List.mem_append];rcases List.mem_cons.1 hd with rfl | hd
  · exact .inl hn
  · exact .inr (Qh4 hd n hn)
 | [], d, hd, n, hn => by simp at hd
section
variable {H : Type} {enc : TypeId × Value → H} {P : Program} {w : World} {spare : Nat → Bool} {held : Bool}
mutual
theorem rd : ∀ (S : Sh) (n : Nat) (t : TypeId) (cs : List Value) (x : DataW H × List MemPlace), shB P S t = true → DataW.trod enc P w 0 spare held n t cs = some x → (∀ k ∈ x.1.weights P t, k ≤ reachBytes) → ∃ gs, Qba w cs gs ∧ Den S gs ∧ cs.length = S.size
 | .int k, n, t, cs, x, hs, h, hw => by
  unfold shB at hs;split at hs
  · rename_i k' hu;have hs : k = k' := by simpa using hs
    subst hs;obtain ⟨m, rfl, _, hwf⟩ := DataW.trod_int hu h;exact ⟨[.int k m], .one rfl (.int _ _), ⟨m, rfl, hwf⟩, rfl⟩
  · cases hs
 | .bool, n, t, cs, x, hs, h, hw => by
  unfold shB at hs;split at hs
  · rename_i hu;obtain ⟨b, rfl, _⟩ := DataW.trod_bool hu h;exact ⟨[.bool b], .one rfl (.bool _), ⟨b, rfl⟩, rfl⟩
  · cases hs
 | .str, n, t, cs, x, hs, h, hw => by
  unfold shB at hs;split at hs
  · rename_i hu;cases n with
    | zero => simp [DataW.trod] at h
    | succ n =>
     unfold DataW.trod at h;rw [hu] at h
     match cs, h with
     | [.string b], h =>
      simp only at h
      split at h
      · rename_i hl;simp only [Option.some.injEq] at h;subst h;refine ⟨[.str b.data.toList], .one rfl ?_, ⟨_, rfl, ?_⟩, rfl⟩
        · exact VR.str (E := Env.all w) b.data.toList
        · exact hw _ (by simp [DataW.weights])
      · cases h
  · cases hs
 | .slice e, n, t, cs, x, hs, h, hw => by
  unfold shB at hs;split at hs
  · rename_i et hu;simp only [Bool.and_eq_true, beq_iff_eq] at hs;obtain ⟨⟨⟨hs, hsz⟩, hpos⟩, hlow⟩ := hs;have hpos : 0 < e.size := by simpa using hpos
    have hlow : e.low ≤ P.bytesOf et := by simpa using hlow
    rcases DataW.trod_slice hu h with ⟨rfl, _⟩ | ⟨a, len, cap, elems, rest, m, rfl, rfl, rfl, _, hlc, hcm, hel, helem, _, _⟩
    · exact ⟨[.slice [] .none], .one rfl (.slice none 0 0 [] .none 0 (fun _ => .bool true) rfl (Nat.le_refl _) (by simp) (fun hx => absurd rfl hx) (by simp) trivial), ⟨[], rfl, ⟨by simp, by simp⟩, by simp⟩, rfl⟩
    · have hw0 : (elems.length + rest.length) * P.bytesOf et ≤ reachBytes := by
       have := hw ((elems.length + rest.length) * P.bytesOf et) (by show _ ∈ DataW.weights P t (.slice _ _); rw [DataW.weights]; simp only [hu, List.length_map]; exact List.mem_cons_self);exact this
      have hwE : ∀ d ∈ elems.map (·.1), ∀ k ∈ d.weights P et, k ≤ reachBytes := fun d hd k hk =>
       hw k (by show k ∈ DataW.weights P t (.slice _ _); rw [DataW.weights]; simp only [hu]; exact List.mem_cons_of_mem _ (List.mem_append_left _ (Qh4 hd k hk)))
      have each : ∀ i : Nat, ∃ cs gs, i < len → (w.cells? 0 (a.add (i * P.cellsOf et)) (P.cellsOf et)) = some cs ∧ Qba w cs gs ∧ Den e gs ∧ cs.length = e.size := by
       intro i;by_cases hi : i < len
       · have := helem i hi
         rw [← hel] at hi;rw [List.getElem?_eq_getElem hi, Option.bind_eq_some_iff] at this;obtain ⟨cs, h1, h2⟩ := this;obtain ⟨gs, h3, h4, h5⟩ := rd e m et cs _ hs h2 (fun k hk => hwE _ (List.mem_map_of_mem (List.getElem_mem hi)) k hk);exact ⟨cs, gs, fun _ => ⟨h1, h3, h4, h5⟩⟩
       · exact ⟨[], [], fun h => absurd h hi⟩
      obtain ⟨C, hC⟩ := Classical.axiomOfChoice each;obtain ⟨G, hCG⟩ := Classical.axiomOfChoice hC;refine ⟨[.slice ((List.range len).map G) .none], .one rfl ?_, ⟨_, rfl, ⟨by simp; omega, ?_⟩, fun x hx => ?_⟩, rfl⟩
      · have hG : ∀ i, i < len → (G i).length = e.size := fun i hi => by rw [← (hCG i hi).2.1.1]; exact (hCG i hi).2.2.2
        have cell : ∀ i, i < len → ∀ j, j < e.size → w.cell? ((a.add (i * e.size)).add j) = (C i)[j]? := fun i hi j hj => by
         have := Qit (hCG i hi).1;rw [hsz] at this;exact this.2 j hj
        have dm : ∀ k, k < len * e.size → k / e.size < len ∧ k % e.size < e.size ∧ k / e.size * e.size + k % e.size = k := fun k hk =>
         ⟨(Nat.div_lt_iff_lt_mul hpos).2 hk, Nat.mod_lt _ hpos, by rw [Nat.mul_comm]; exact Nat.div_add_mod k e.size⟩
        have hszs : ∀ x ∈ (List.range len).map G, x.length = e.size := fun x hx => by
         obtain ⟨i, hi, rfl⟩ := List.mem_map.1 hx;exact hG i (by simpa using hi)
        refine .slice (some a) len cap _ .none e.size (fun k => ((C (k / e.size))[k % e.size]?).getD (.bool true)) (by simp) hlc hszs (fun hx => ?_) (fun k g hk => ?_) trivial
        · have hlen : 0 < len := by
           rcases Nat.eq_zero_or_pos len with h0 | h0
           · subst h0; simp at hx
           · exact h0
          have in_ : ∀ i, i < len → ∀ j, j < e.size → ∃ v, (C i)[j]? = some v ∧ v.oneCell' = true := fun i hi j hj => by
           have hl : j < (C i).length := by rw [(hCG i hi).2.2.2]; exact hj
           exact ⟨_, List.getElem?_eq_getElem hl, (hCG i hi).2.1.2.1 _ (List.getElem_mem hl)⟩
          obtain ⟨b, off, spot⟩ := a;have hspot : spot = none := by
           obtain ⟨v, hv, _⟩ := in_ 0 hlen 0 hpos;have := cell 0 hlen 0 hpos;rw [hv] at this
           simpa [Addr.add] using World.cell?_spot this
          subst hspot;refine ⟨b, off, rfl, fun k hk => ?_⟩;obtain ⟨d1, d2, d3⟩ := dm k hk;obtain ⟨v, hv, hv2⟩ := in_ _ d1 _ d2;have := cell _ d1 _ d2;rw [hv] at this;rw [hv];refine Env.all_at ?_ hv2;rw [Qbp, Qbp, Nat.add_assoc, d3] at this;exact this
        · have hk' : k < len * e.size := by
           have := (List.getElem?_eq_some_iff.1 hk).1;rw [QfM hszs] at this
           simpa using this
          obtain ⟨d1, d2, d3⟩ := dm k hk';have hx : ((List.range len).map G)[k / e.size]? = some (G (k / e.size)) := by simp [d1]
          have e1 := QbA _ hszs (k / e.size) (k % e.size) _ hx d2;rw [d3, hk] at e1;have hl : k % e.size < (C (k / e.size)).length := by rw [(hCG _ d1).2.2.2]; exact d2
          rw [List.getElem?_eq_getElem hl];exact (hCG _ d1).2.1.2.2 _ _ _ (List.getElem?_eq_getElem hl) e1.symm
      · rw [List.length_map, List.length_range];refine Nat.le_trans (Nat.mul_le_mul (by omega : len ≤ elems.length + rest.length) hlow) hw0
      · obtain ⟨i, hi, rfl⟩ := List.mem_map.1 hx;exact (hCG i (by simpa using hi)).2.2.1
  · cases hs
 | .agg l, n, t, cs, x, hs, h, hw => by
  unfold shB at hs;split at hs
  · rename_i fs hu;simp only [Bool.and_eq_true, beq_iff_eq] at hs;obtain ⟨hs, hsz⟩ := hs;obtain ⟨xs, m, rfl, rfl, hcl, hxl, hf⟩ := DataW.trod_struct hu h;obtain ⟨ps, h1, h2⟩ := rds l m fs.toList cs 0 hs (by simpa [hsz] using hcl) (fun f hf' => by
     obtain ⟨i, hi⟩ := List.getElem?_of_mem hf';have := hf i f (by simpa using hi);have hlt : i < xs.length := by rw [hxl]; simpa using (List.getElem?_eq_some_iff.1 hi).1
     rw [List.getElem?_eq_getElem hlt] at this;refine ⟨_, this, fun k hk => hw k ?_⟩;simp only [DataW.weights, hu];exact DataW.weights_mem_each (j := i) (t := f.type) (d := xs[i].1) (by rw [List.getElem?_map, hi]; rfl) (by rw [List.getElem?_map, List.getElem?_eq_getElem hlt]; rfl) k hk)
    exact ⟨ps.flatten, by simpa using h1, ⟨ps, rfl, h2⟩, by rw [hcl, hsz]; rfl⟩
  · cases hs
 | .arr c e, n, t, cs, x, hs, h, hw => by
  unfold shB at hs;split at hs
  · rename_i n' et hu;simp only [Bool.and_eq_true, beq_iff_eq] at hs;obtain ⟨⟨⟨rfl, hs⟩, hsz⟩, hct⟩ := hs;obtain ⟨xs, m, rfl, rfl, hcl, hxl, hf⟩ := DataW.trod_array hu h;have key : ∀ k, k ≤ c → ∃ ps : List (List GVal), Qba w (cs.take (k * e.size)) ps.flatten ∧ ps.length = k ∧ ∀ p ∈ ps, Den e p ∧ p.length = e.size := by
     intro k;induction k with
     | zero => exact fun _ => ⟨[], by simp [Qba], rfl, by simp⟩
     | succ k ih =>
      intro hk;obtain ⟨ps, h1, h2, h3⟩ := ih (by omega);have := hf k (by omega);have hlt : k < xs.length := by omega
      rw [List.getElem?_eq_getElem hlt] at this;obtain ⟨gs, q1, q2, q3⟩ := rd e m et _ _ hs this (fun z hz => hw z (by
       simp only [DataW.weights, hu];exact Qh4 (List.mem_map_of_mem (List.getElem_mem hlt)) z hz))
      refine ⟨ps ++ [gs], ?_, by simp [h2], fun p hp => ?_⟩
      · rw [List.flatten_append, List.flatten_cons, List.flatten_nil, List.append_nil, Nat.succ_mul, List.take_add];rw [hsz] at q1;exact h1.append q1
      · rcases List.mem_append.1 hp with hp | hp
        · exact h3 p hp
        · simp at hp; subst hp;exact ⟨q2, by rw [← q1.1, q3]⟩
    obtain ⟨ps, h1, h2, h3⟩ := key c (Nat.le_refl _);rw [List.take_of_length_le (by omega)] at h1;exact ⟨ps.flatten, h1, ⟨ps, rfl, h2, h3⟩, by rw [hcl, hct]; rfl⟩
  · cases hs
theorem rds : ∀ (l : List Sh) (n : Nat) (fs : List Field) (cs : List Value) (o : Nat), shBs P l fs o = true → cs.length = o + Sh.sizes l →
 (∀ f ∈ fs, ∃ x, DataW.trod enc P w 0 spare held n f.type ((cs.drop f.offset).take (P.cellsOf f.type)) = some x ∧ ∀ k ∈ x.1.weights P f.type, k ≤ reachBytes) → ∃ ps, Qba w (cs.drop o) ps.flatten ∧ Dens l ps
 | [], n, fs, cs, o, hs, hl, h => by
  refine ⟨[], ?_, rfl⟩;rw [List.drop_eq_nil_of_le (by rw [hl]; simp [Sh.sizes])];exact ⟨rfl, by simp, fun j c g h1 => by simp at h1⟩
 | s :: r, n, fs, cs, o, hs, hl, h => by
  match fs, hs, h with
  | f :: fs, hs, h =>
   unfold shBs at hs;simp only [Bool.and_eq_true, beq_iff_eq] at hs;obtain ⟨⟨⟨h1, h2⟩, h3⟩, h4⟩ := hs;obtain ⟨x, hx, hxw⟩ := h f (by simp);obtain ⟨gs, q1, q2, q3⟩ := rd s n f.type _ _ h3 hx hxw;simp only [Sh.sizes] at hl;obtain ⟨ps, k1, k2⟩ := rds r n fs cs (o + s.size) h4 (by rw [hl]; omega) (fun f' hf' => h f' (by simp [hf']));refine ⟨gs :: ps, ?_, ⟨gs, ps, rfl, q2, k2⟩⟩;rw [List.flatten_cons];have e : cs.drop o = (cs.drop f.offset).take (P.cellsOf f.type) ++ cs.drop (o + s.size) := by
    rw [h1, h2, ← List.drop_drop]; exact (List.take_append_drop _ _).symm
   rw [e];exact q1.append k1
  | [], hs, h => simp [shBs] at hs
end
def Sh.val : Sh → List GVal → GVal
 | .agg _, gs => .agg gs
 | .arr _ _, gs => .agg gs
 | _, gs => gs.headD .any
theorem arg_read {S : Sh} {t : TypeId} {r : Reach} {base : Nat} {v : Value} {d : DataW H} {ps : List MemPlace} (hs : shB P S t = true) (hval : Value.okWide P w r base t v) (h : DataW.Trod enc P w 0 spare held t v d ps) (hw : ∀ k ∈ d.weights P t, k ≤ reachBytes) :
 ∃ gs, Den S gs ∧ VR (Env.all w) v (S.val gs) := by
 obtain ⟨n, h⟩ := h
 obtain ⟨gs, h1, h2, h3⟩ := rd S n t _ _ hs h hw
 refine ⟨gs, h2, ?_⟩
 have single : ∀ x : Value, v = x → x.cells.toList = [x] → (∃ g, gs = [g]) → S.val gs = gs.headD .any → VR (Env.all w) v (S.val gs) := by
  intro x hx hc ⟨g, hg⟩ hv;subst hx; subst hg;rw [hv];rw [hc] at h1;exact h1.2.2 0 _ _ rfl rfl
 cases S with
 | int k =>
  unfold shB at hs;split at hs
  · rename_i k' hu;obtain ⟨n, rfl⟩ := okWide_int hu hval;obtain ⟨m, e, _⟩ := h2;exact single _ rfl rfl ⟨_, e⟩ rfl
  · cases hs
 | bool =>
  unfold shB at hs;split at hs
  · rename_i hu;obtain ⟨n, rfl⟩ := okWide_bool hu hval;obtain ⟨m, e⟩ := h2;exact single _ rfl rfl ⟨_, e⟩ rfl
  · cases hs
 | str =>
  unfold shB at hs;split at hs
  · rename_i hu;obtain ⟨n, rfl⟩ := okWide_string hu hval;obtain ⟨m, e, _⟩ := h2;exact single _ rfl rfl ⟨_, e⟩ rfl
  · cases hs
 | slice e =>
  unfold shB at hs;split at hs
  · rename_i et hu;obtain ⟨a, len, cap, rfl⟩ := okWide_slice hu hval;obtain ⟨m, e, _⟩ := h2;exact single _ rfl rfl ⟨_, e⟩ rfl
  · cases hs
 | agg l =>
  unfold shB at hs;split at hs
  · rename_i fs hu;obtain ⟨cs, rfl, _⟩ := okWide_struct hu hval;refine .agg cs gs (by have := h1.1; simpa [Value.cells] using this) (fun j g hj => ?_);have hl : j < cs.size := by
     have := (List.getElem?_eq_some_iff.1 hj).1
     rw [← h1.1] at this; simpa [Value.cells] using this
    have := h1.2.2 j cs[j] g (by simp [Value.cells, hl]) hj
    simpa [Array.getD, hl] using this
  · cases hs
 | arr c e =>
  unfold shB at hs;split at hs
  · rename_i n' et hu;have hval' := hval;simp only [Value.okWide, hu] at hval';obtain ⟨cs, rfl, hcs, _⟩ := hval';refine .agg cs gs (by have := h1.1; simpa [Value.cells] using this) (fun j g hj => ?_);have hl : j < cs.size := by
     have := (List.getElem?_eq_some_iff.1 hj).1
     rw [← h1.1] at this; simpa [Value.cells] using this
    have := h1.2.2 j cs[j] g (by simp [Value.cells, hl]) hj
    simpa [Array.getD, hl] using this
  · cases hs
end
end Z
end Gv
namespace Go.Proofs.YtnenmmdpclglhaaGreatDoor
open Go Go.ChangeShapes Go.WideShapes Go.RowKit
theorem laidOwn : ownKnob Tryz.prog.godebug = none := by kernel_rfl
theorem laidOut : laidOutB Tryz.prog = true := by kernel_rfl
abbrev laidL : List (String × DataW Unit) := [("errors.errorType", Rows.laid_errors_errorType)]
theorem laidVar : Tryz.prog.globalNamed "errors.errorType" = some 0 := by kernel_rfl
theorem laidRt : (Tryz.prog.cutTypes.find? (·.1 == "internal/reflectlite.rtype")).map (·.2) = some 176 := by kernel_rfl
theorem laidRow : ((List.range 253).filter fun t => Tryz.prog.rowNamed t [101, 114, 114, 111, 114]) = [28] := by kernel_rfl
theorem laidSize : Tryz.prog.types.size = 253 := by kernel_rfl
theorem laidHandle {W : World} (h : laidMetH Tryz.prog laidL W) : W.cell? ⟨0, 0, none⟩ = some (.iface 176 (.agg #[.pointer (some ⟨2, 28, none⟩)])) := by
 have h' : laidMet Tryz.prog [] W ∧ handlesMet Tryz.prog laidL W := h
 obtain ⟨name, u, ty, e1, e2, e3, e4, e5⟩ := h'.2 _ (List.mem_singleton.2 rfl)
 have en : name = [101, 114, 114, 111, 114] := (Option.some.inj e1).symm
 subst en
 obtain rfl := Option.some.inj (laidRt.symm.trans e2)
 have hm : ty ∈ (List.range 253).filter fun t => Tryz.prog.rowNamed t [101, 114, 114, 111, 114] := List.mem_filter.2 ⟨List.mem_range.2 (by rw [← laidSize]; exact e3), e4⟩
 rw [laidRow] at hm
 obtain rfl := List.mem_singleton.1 hm
 have hh : typeHandle Tryz.prog 28 = .pointer (some ⟨2, 28, none⟩) := by kernel_rfl
 rw [hh] at e5
 simpa using World.var?_cell laidVar e5 0
theorem laidGlobs {W : World} (h : laidMetH Tryz.prog laidL W) : Gv.GlobsIn W := fun p hp => by
 obtain rfl : p = (0, 0, .iface 176 (.agg #[.pointer (some ⟨2, 28, none⟩)])) := by simpa [Gv.globs] using hp
 exact ⟨laidHandle h, rfl⟩
noncomputable def laidWorld (os : Os) : World :=
 let w0 := World.holding Tryz.prog os ⟨#[], #[], []⟩
 { w0 with heap := w0.heap.modify 0 fun
  | .cells _ t frozen => .cells #[.iface 176 (.agg #[.pointer (some ⟨2, 28, none⟩)])] t frozen
  | o => o }
theorem laidWorld_met (os : Os) (args : Array Value) : laidMetH Tryz.prog laidL ((laidWorld os).forCall (fun _ _ => 0) ⟨#[], args, []⟩).memory :=
 laidMetH_of_parts (laidMet_nil _ _) (by kernel_rfl)
end Go.Proofs.YtnenmmdpclglhaaGreatDoor
