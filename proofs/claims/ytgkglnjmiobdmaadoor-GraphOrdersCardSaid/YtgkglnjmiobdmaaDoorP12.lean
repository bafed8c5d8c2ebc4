/- errors.As at a target of kind *api.Errno: Go's own text walked (after the worked example toyas). -/
import Derived.Test.YtgkglnjmiobdmaaDoorProg
import Derived.WalkKit
import Derived.LaidEql
import Derived.Stop.Asserts
import Derived.RowKitTokens
import Derived.Test.YtgkglnjmiobdmaaDoorP6
import Derived.Test.YtgkglnjmiobdmaaDoorP9
import Derived.Test.YtgkglnjmiobdmaaDoorP10
import Derived.Test.YtgkglnjmiobdmaaDoorP11
import Derived.Test.YtgkglnjmiobdmaaDoorP4
import Derived.Test.YtgkglnjmiobdmaaDoorP5
namespace Gv.Tryd
open Go Go.Proofs Go.RowKit Go.Extern.Stop Go.Stop Go.Extern

/-! ### CLOSED FACTS ON THE MODEL's ENTRIES FOR internal/reflectlite, at this program's types: 25: *p.E · 27: **p.E · 23: error · 45: reflectlite's rtype · 1: how many package-level variables the dump has -/
theorem AsD.valueOf27 (t : Addr) (w : World) : (ReflectliteValue.unpack (.iface 89 (.pointer (some t)))).run Tryd.prog w
    = .ok (.agg #[.pointer (some ⟨2, 89, none⟩), .pointer (some ⟨w.heap.size, 0, none⟩), .int .u64 150]) (w.alloc (.cells #[.pointer (some t)] 89)) := by kernel_rfl
theorem AsD.type27 (a : Addr) (w : World) : (ReflectliteValue.methodAny (ReflectliteValue.valueError "reflectlite.Value.Type" 0) (fun t _ _ _ => ReflectliteType.toType t) #[.agg #[.pointer (some ⟨2, 89, none⟩), .pointer (some a), .int .u64 150]]).run Tryd.prog w
    = .ok (.iface 119 (.agg #[.pointer (some ⟨2, 89, none⟩)])) w := by kernel_rfl
theorem AsD.methodKind (h : Value) (w : World) : (Go.method 281 119 (.agg #[h]) "Kind").run Tryd.prog w = .ok (103, h) w := by kernel_rfl
theorem AsD.kind27 (w : World) : ((ReflectliteType.abiMethod fun t => (fun a : Nat => Value.int IntKind.u8 (a : Int)) <$> Rtype.kind t) #[.pointer (some ⟨2, 89, none⟩)]).run Tryd.prog w = .ok (.int .u8 22) w := by kernel_rfl
theorem AsD.kind25 (w : World) : ((ReflectliteType.abiMethod fun t => (fun a : Nat => Value.int IntKind.u8 (a : Int)) <$> Rtype.kind t) #[.pointer (some ⟨2, 60, none⟩)]).run Tryd.prog w = .ok (.int .u8 2) w := by kernel_rfl

/-! ### THE ENTRIES THAT READ OR WRITE MEMORY: laws with a premise on the cell (after Derived/Lib/ReflectliteSlice.lean's manner: each unfolding a lemma of its own, by rfl) -/
theorem rlm (z : Sem Value) (f : TypeId → Addr → Nat → Nat → Sem Value) (v : Value) :
    ReflectliteValue.method z f #[v] = (do match ← ReflectliteValue.parts v with | none => z | some (t, a, fl) => f t a fl (fl % 32)) := rfl
theorem AsD.parts27 (a : Addr) (w : World) : (ReflectliteValue.parts (.agg #[.pointer (some ⟨2, 89, none⟩), .pointer (some a), .int .u64 150])).run Tryd.prog w = .ok (some (89, a, 150)) w := by kernel_rfl
theorem AsD.isNil27 (a p : Addr) (W : World) (ha : W.cell? a = some (.pointer (some p))) :
    (ReflectliteValue.method (ReflectliteValue.valueError "reflectlite.Value.IsNil" 0) ReflectliteValue.isNil #[.agg #[.pointer (some ⟨2, 89, none⟩), .pointer (some a), .int .u64 150]]).run Tryd.prog W = .ok (.bool false) W := by
  rw [rlm]
  simp only [Sem.run_bind, AsD.parts27, Result.andThen]
  simp [ReflectliteValue.isNil, loadVar, isAgg, underlying, Tryd.underlying89, ha, Result.andThen]

theorem AsD.methodElem (h : Value) (w : World) : (Go.method 281 119 (.agg #[h]) "Elem").run Tryd.prog w = .ok (115, .agg #[h]) w := by kernel_rfl
theorem AsD.methodImplements (h : Value) (w : World) : (Go.method 281 119 (.agg #[h]) "Implements").run Tryd.prog w = .ok (116, .agg #[h]) w := by kernel_rfl
theorem AsD.methodAssignableTo (h : Value) (w : World) : (Go.method 281 119 (.agg #[h]) "AssignableTo").run Tryd.prog w = .ok (113, .agg #[h]) w := by kernel_rfl
theorem AsD.elem27 (w : World) : (ReflectliteType.method ReflectliteType.elem #[.agg #[.pointer (some ⟨2, 89, none⟩)]]).run Tryd.prog w = .ok (.iface 119 (.agg #[.pointer (some ⟨2, 60, none⟩)])) w := by kernel_rfl
theorem AsD.implements25 (w : World) : (ReflectliteType.relation "Implements" ReflectliteType.implements_ #[.agg #[.pointer (some ⟨2, 60, none⟩)], .iface 119 (.agg #[.pointer (some ⟨2, 35, none⟩)])]).run Tryd.prog w = .ok (.bool true) w := by kernel_rfl
theorem AsD.typeOf25 (v : Value) (w : World) : (ReflectliteType.typeOf #[.iface 60 v]).run Tryd.prog w = .ok (.iface 119 (.agg #[.pointer (some ⟨2, 60, none⟩)])) w := by kernel_rfl
theorem AsD.assignable25 (w : World) : (ReflectliteType.relation "AssignableTo" ReflectliteType.assignableTo #[.agg #[.pointer (some ⟨2, 60, none⟩)], .iface 119 (.agg #[.pointer (some ⟨2, 60, none⟩)])]).run Tryd.prog w = .ok (.bool true) w := by kernel_rfl
theorem AsD.valueOf25 (e : Int) (w : World) : (ReflectliteValue.unpack (.iface 60 (.int .i64 e))).run Tryd.prog w
    = .ok (.agg #[.pointer (some ⟨2, 60, none⟩), .pointer (some ⟨w.heap.size, 0, none⟩), .int .u64 130]) (w.alloc (.cells #[.int .i64 e] 60)) := by kernel_rfl

theorem AsD.elemOf27 (w : World) : (Rtype.elem? 89).run Tryd.prog w = .ok (some 60) w := by kernel_rfl
theorem AsD.mk25 (p : Addr) (w : World) : (ReflectliteValue.mk 60 p ReflectliteValue.flagAddr).run Tryd.prog w = .ok (.agg #[.pointer (some ⟨2, 60, none⟩), .pointer (some p), .int .u64 386]) w := by kernel_rfl
theorem AsD.elemV27 (a p : Addr) (W : World) (ha : W.cell? a = some (.pointer (some p))) :
    (ReflectliteValue.method (ReflectliteValue.valueError "reflectlite.Value.Elem" 0) ReflectliteValue.elem #[.agg #[.pointer (some ⟨2, 89, none⟩), .pointer (some a), .int .u64 150]]).run Tryd.prog W
      = .ok (.agg #[.pointer (some ⟨2, 60, none⟩), .pointer (some p), .int .u64 386]) W := by
  rw [rlm]
  simp only [Sem.run_bind, AsD.parts27, Result.andThen]
  simp [ReflectliteValue.elem, loadVar, isAgg, underlying, Tryd.underlying89, ha, Result.andThen, AsD.elemOf27, AsD.mk25]
theorem rls (v x : Value) : ReflectliteValue.set #[v, x] = (do
    let (some (dst, a, fl), some (src, b, _)) := (← ReflectliteValue.parts v, ← ReflectliteValue.parts x)
      | unsupported (.noEntry "extern/(internal/reflectlite.Value).Set.zeroValue")
    if fl / ReflectliteValue.flagAddr % 2 == 0 then unsupported (.noEntry "extern/(internal/reflectlite.Value).Set.unaddressable")
    let val ← loadVar src b
    if ← Rtype.directlyAssignable dst src then storeVar dst a val
    else if ← Rtype.implements dst src then
      if (← Rtype.kind src) == 20 then
        match val with
        | .nilIface => unsupported (.noEntry "extern/reflectlite: a nil value of one interface type handed on as a value of another")
        | _ => storeVar dst a val
      else storeVar dst a (.iface src val)
    else panicString ("reflectlite.Set: value of type " ++ (← Rtype.spelt src) ++ " is not assignable to type " ++ (← Rtype.spelt dst))
    pure (.tuple #[])) := rfl
theorem AsD.parts25a (a : Addr) (w : World) : (ReflectliteValue.parts (.agg #[.pointer (some ⟨2, 60, none⟩), .pointer (some a), .int .u64 386])).run Tryd.prog w = .ok (some (60, a, 386)) w := by kernel_rfl
theorem AsD.parts25 (a : Addr) (w : World) : (ReflectliteValue.parts (.agg #[.pointer (some ⟨2, 60, none⟩), .pointer (some a), .int .u64 130])).run Tryd.prog w = .ok (some (60, a, 130)) w := by kernel_rfl
theorem AsD.direct25 (w : World) : (Rtype.directlyAssignable 60 60).run Tryd.prog w = .ok true w := by kernel_rfl
theorem AsD.set25 (ta b : Addr) (e : Int) (old : Value) (W : World) (hb : W.cell? b = some (.int .i64 e)) (ht : W.cell? ta = some old) (hf : W.frozen? ta = false) :
    (ReflectliteValue.set #[.agg #[.pointer (some ⟨2, 60, none⟩), .pointer (some ta), .int .u64 386], .agg #[.pointer (some ⟨2, 60, none⟩), .pointer (some b), .int .u64 130]]).run Tryd.prog W
      = .ok (.tuple #[]) (W.setCell ta (.int .i64 e)) := by
  rw [rls]
  simp only [Sem.run_bind, AsD.parts25a, AsD.parts25, Result.andThen]
  simp [ReflectliteValue.flagAddr, loadVar, isAgg, underlying, Tryd.underlying60, hb, Result.andThen, AsD.direct25, storeVar, Value.cells, storeCells, Addr.add]
  rw [run_store Tryd.prog W ta _ _ (by rfl)]
  simp [ht, hf]

end Gv.Tryd
/- errors.As at *api.Errno where the error is a *oops.Which; at **oops.Which. -/
namespace Gv.Tryd
open Go Go.Proofs Go.RowKit Go.Extern.Stop Go.Stop Go.Extern
theorem AsW.typeOf (v : Value) (w : World) : (ReflectliteType.typeOf #[.iface 84 v]).run Tryd.prog w = .ok (.iface 119 (.agg #[.pointer (some ⟨2, 84, none⟩)])) w := by kernel_rfl
theorem AsW.notAssignable (w : World) : (ReflectliteType.relation "AssignableTo" ReflectliteType.assignableTo #[.agg #[.pointer (some ⟨2, 84, none⟩)], .iface 119 (.agg #[.pointer (some ⟨2, 60, none⟩)])]).run Tryd.prog w = .ok (.bool false) w := by kernel_rfl
theorem AsW.noAs (v : Value) (xT : TypeId) (w : World) : (Instr.typeAssert (.iface 84 v) xT 124 true).run Tryd.prog w = .ok (.tuple #[.nilIface, .bool false]) w := run_typeAssert_lacksB Tryd.underlying124 (by kernel_rfl) (by kernel_rfl) v xT w
theorem AsW.hasUnwrap (v : Value) (xT : TypeId) (w : World) : (Instr.typeAssert (.iface 84 v) xT 127 true).run Tryd.prog w = .ok (.tuple #[.iface 84 v, .bool true]) w := run_typeAssert_hasB Tryd.underlying127 (by kernel_rfl) v xT w
theorem AsW.methodUnwrap (p : Value) (w : World) : (Go.method 281 84 p "Unwrap").run Tryd.prog w = .ok (108, p) w := by kernel_rfl
set_option maxRecDepth 20000 in
set_option maxHeartbeats 4000000 in
theorem as_wrap (b0 off : Nat) (e : Int) (t : Addr) (old : Value) (w : World) (hp : w.cell? ⟨b0, off + 32, none⟩ = some (.iface 60 (.int .i64 e))) (hg : w.cell? ⟨0, 0, none⟩ = some (.iface 119 (.agg #[.pointer (some ⟨2, 35, none⟩)]))) (ht0 : w.cell? t = some old) (hf0 : w.frozen? t = false) :
    Calls Tryd.prog 43 #[.iface 84 (.pointer (some ⟨b0, off, none⟩)), .iface 89 (.pointer (some t))] w fun ev w' => ev = .returned (.bool true) ∧ w' = ((((w.alloc (.cells #[.pointer (some t)] 89)).alloc (.cells #[.pointer (some ⟨2, 89, none⟩), .pointer (some ⟨w.heap.size, 0, none⟩), .int .u64 150] 105)).alloc (.cells #[.pointer (some ⟨2, 89, none⟩), .pointer (some ⟨w.heap.size, 0, none⟩), .int .u64 150] 105)).alloc (.cells #[.int .i64 e] 60)).setCell t (.int .i64 e) := by
  have h6 := @run_callFunc_extern Tryd.prog 59 _ (fun args => ReflectliteValue.unpack (args.getD 0 (.tuple #[]))) Tryd.func59 (by kernel_rfl) (by kernel_rfl) (by kernel_rfl) (by kernel_rfl)
  have h7 := @run_callFunc_extern Tryd.prog 60 _ (ReflectliteValue.methodAny (ReflectliteValue.valueError "reflectlite.Value.Type" 0) (fun t _ _ _ => ReflectliteType.toType t)) Tryd.func60 (by kernel_rfl) (by kernel_rfl) (by kernel_rfl) (by kernel_rfl)
  have h8 := @run_callFunc_extern Tryd.prog 61 _ (ReflectliteValue.method (ReflectliteValue.valueError "reflectlite.Value.IsNil" 0) ReflectliteValue.isNil) Tryd.func61 (by kernel_rfl) (by kernel_rfl) (by kernel_rfl) (by kernel_rfl)
  have h27 := @run_callFunc_extern Tryd.prog 103 _ (ReflectliteType.abiMethod fun t => do pure (.int .u8 (← Rtype.kind t))) Tryd.func103 (by kernel_rfl) (by kernel_rfl) (by kernel_rfl) (by kernel_rfl)
  have h37 := @run_callFunc_extern Tryd.prog 115 _ (ReflectliteType.method ReflectliteType.elem) Tryd.func115 (by kernel_rfl) (by kernel_rfl) (by kernel_rfl) (by kernel_rfl)
  have h38 := @run_callFunc_extern Tryd.prog 116 _ (ReflectliteType.relation "Implements" ReflectliteType.implements_) Tryd.func116 (by kernel_rfl) (by kernel_rfl) (by kernel_rfl) (by kernel_rfl)
  have h10 := @run_callFunc_extern Tryd.prog 70 _ ReflectliteType.typeOf Tryd.func70 (by kernel_rfl) (by kernel_rfl) (by kernel_rfl) (by kernel_rfl)
  have h35 := @run_callFunc_extern Tryd.prog 113 _ (ReflectliteType.relation "AssignableTo" ReflectliteType.assignableTo) Tryd.func113 (by kernel_rfl) (by kernel_rfl) (by kernel_rfl) (by kernel_rfl)
  have h11 := @run_callFunc_extern Tryd.prog 71 _ (ReflectliteValue.method (ReflectliteValue.valueError "reflectlite.Value.Elem" 0) ReflectliteValue.elem) Tryd.func71 (by kernel_rfl) (by kernel_rfl) (by kernel_rfl) (by kernel_rfl)
  have h12 := @run_callFunc_extern Tryd.prog 72 _ ReflectliteValue.set Tryd.func72 (by kernel_rfl) (by kernel_rfl) (by kernel_rfl) (by kernel_rfl)
  have tW := AsW.typeOf
  have nA := AsW.notAssignable
  have noA := AsW.noAs
  have hU := AsW.hasUnwrap
  have mU := AsW.methodUnwrap
  have tO := AsD.typeOf25
  have mA := AsD.methodAssignableTo
  have a25 := AsD.assignable25
  have v25 := AsD.valueOf25
  have f6 := AsD.valueOf27
  have f7 := AsD.type27
  have mK := AsD.methodKind
  have mE := AsD.methodElem
  have mI := AsD.methodImplements
  have k27 := AsD.kind27
  have k25 := AsD.kind25
  have e27 := AsD.elem27
  have i25 := AsD.implements25
  have n8 := AsD.isNil27 ⟨w.heap.size, 0, none⟩ t ((w.alloc (.cells #[.pointer (some t)] 89)).alloc (.cells #[.pointer (some ⟨2, 89, none⟩), .pointer (some ⟨w.heap.size, 0, none⟩), .int .u64 150] 105)) (by simp)
  have hlt : 0 < w.heap.size := by
    rcases Nat.eq_zero_or_pos w.heap.size with h0 | h
    · simp [World.cell?, h0] at hg
    · exact h
  have hg2 : ((w.alloc (.cells #[.pointer (some t)] 89)).alloc (.cells #[.pointer (some ⟨2, 89, none⟩), .pointer (some ⟨w.heap.size, 0, none⟩), .int .u64 150] 105)).cell? ⟨0, 0, none⟩ = some (.iface 119 (.agg #[.pointer (some ⟨2, 35, none⟩)])) := by
    rw [World.cell?_alloc_lt _ _ ⟨0, 0, none⟩ (by simp), World.cell?_alloc_lt _ _ ⟨0, 0, none⟩ hlt]; exact hg
  have htl : t.block < w.heap.size := by
    rcases Nat.lt_or_ge t.block w.heap.size with h | h
    · exact h
    · simp [World.cell?, Array.getElem?_eq_none h] at ht0
  have el := AsD.elemV27 ⟨w.heap.size, 0, none⟩ t (((w.alloc (.cells #[.pointer (some t)] 89)).alloc (.cells #[.pointer (some ⟨2, 89, none⟩), .pointer (some ⟨w.heap.size, 0, none⟩), .int .u64 150] 105)).alloc (.cells #[.pointer (some ⟨2, 89, none⟩), .pointer (some ⟨w.heap.size, 0, none⟩), .int .u64 150] 105)) (by rw [World.cell?_alloc_lt _ _ ⟨w.heap.size, 0, none⟩ (by simp; omega)]; simp)
  have st := AsD.set25 t ⟨w.heap.size + 1 + 1 + 1, 0, none⟩ e old ((((w.alloc (.cells #[.pointer (some t)] 89)).alloc (.cells #[.pointer (some ⟨2, 89, none⟩), .pointer (some ⟨w.heap.size, 0, none⟩), .int .u64 150] 105)).alloc (.cells #[.pointer (some ⟨2, 89, none⟩), .pointer (some ⟨w.heap.size, 0, none⟩), .int .u64 150] 105)).alloc (.cells #[.int .i64 e] 60))
    (by rw [World.cell?_alloc_at _ _ _ _ (by simp)]; rfl)
    (by rw [World.cell?_alloc_lt _ _ t (by simp; omega), World.cell?_alloc_lt _ _ t (by simp; omega), World.cell?_alloc_lt _ _ t (by simp; omega), World.cell?_alloc_lt _ _ t htl]; exact ht0)
    (by rw [World.frozen?_alloc_old _ _ t (by simp; omega), World.frozen?_alloc_old _ _ t (by simp; omega), World.frozen?_alloc_old _ _ t (by simp; omega), World.frozen?_alloc_old _ _ t (Nat.ne_of_lt htl)]; exact hf0)
  have hbl : b0 < w.heap.size := by
    rcases Nat.lt_or_ge b0 w.heap.size with h | h
    · exact h
    · simp [World.cell?, Array.getElem?_eq_none h] at hp
  have hp3 : (((w.alloc (.cells #[.pointer (some t)] 89)).alloc (.cells #[.pointer (some ⟨2, 89, none⟩), .pointer (some ⟨w.heap.size, 0, none⟩), .int .u64 150] 105)).alloc (.cells #[.pointer (some ⟨2, 89, none⟩), .pointer (some ⟨w.heap.size, 0, none⟩), .int .u64 150] 105)).cell? ⟨b0, off + 32, none⟩ = some (.iface 60 (.int .i64 e)) := by
    rw [World.cell?_alloc_lt _ _ ⟨b0, off + 32, none⟩ (by simp; omega), World.cell?_alloc_lt _ _ ⟨b0, off + 32, none⟩ (by simp; omega), World.cell?_alloc_lt _ _ ⟨b0, off + 32, none⟩ hbl]; exact hp
  go_enter Tryd.func43, Tryd.ntmps43
  go_wp2
  refine wp_loop_rounds 2 ?_
  rw [rounds_succ]
  go_wp2
  rw [rounds_succ]
  go_wp2
  go_ret
  exact ⟨rfl, rfl⟩
end Gv.Tryd
/- errors.As at **oops.Which: the error is a *oops.Which; it is a plain api.Errno. -/
namespace Gv.Tryd
open Go Go.Proofs Go.RowKit Go.Extern.Stop Go.Stop Go.Extern
theorem AsX.valueOf27 (t : Addr) (w : World) : (ReflectliteValue.unpack (.iface 86 (.pointer (some t)))).run Tryd.prog w
    = .ok (.agg #[.pointer (some ⟨2, 86, none⟩), .pointer (some ⟨w.heap.size, 0, none⟩), .int .u64 150]) (w.alloc (.cells #[.pointer (some t)] 86)) := by kernel_rfl
theorem AsX.type27 (a : Addr) (w : World) : (ReflectliteValue.methodAny (ReflectliteValue.valueError "reflectlite.Value.Type" 0) (fun t _ _ _ => ReflectliteType.toType t) #[.agg #[.pointer (some ⟨2, 86, none⟩), .pointer (some a), .int .u64 150]]).run Tryd.prog w
    = .ok (.iface 119 (.agg #[.pointer (some ⟨2, 86, none⟩)])) w := by kernel_rfl
theorem AsX.methodKind (h : Value) (w : World) : (Go.method 281 119 (.agg #[h]) "Kind").run Tryd.prog w = .ok (103, h) w := by kernel_rfl
theorem AsX.kind27 (w : World) : ((ReflectliteType.abiMethod fun t => (fun a : Nat => Value.int IntKind.u8 (a : Int)) <$> Rtype.kind t) #[.pointer (some ⟨2, 86, none⟩)]).run Tryd.prog w = .ok (.int .u8 22) w := by kernel_rfl
theorem AsX.kind25 (w : World) : ((ReflectliteType.abiMethod fun t => (fun a : Nat => Value.int IntKind.u8 (a : Int)) <$> Rtype.kind t) #[.pointer (some ⟨2, 84, none⟩)]).run Tryd.prog w = .ok (.int .u8 22) w := by kernel_rfl

theorem AsX.parts27 (a : Addr) (w : World) : (ReflectliteValue.parts (.agg #[.pointer (some ⟨2, 86, none⟩), .pointer (some a), .int .u64 150])).run Tryd.prog w = .ok (some (86, a, 150)) w := by kernel_rfl
theorem AsX.isNil27 (a p : Addr) (W : World) (ha : W.cell? a = some (.pointer (some p))) :
    (ReflectliteValue.method (ReflectliteValue.valueError "reflectlite.Value.IsNil" 0) ReflectliteValue.isNil #[.agg #[.pointer (some ⟨2, 86, none⟩), .pointer (some a), .int .u64 150]]).run Tryd.prog W = .ok (.bool false) W := by
  rw [rlm]
  simp only [Sem.run_bind, AsX.parts27, Result.andThen]
  simp [ReflectliteValue.isNil, loadVar, isAgg, underlying, Tryd.underlying86, ha, Result.andThen]

theorem AsX.methodElem (h : Value) (w : World) : (Go.method 281 119 (.agg #[h]) "Elem").run Tryd.prog w = .ok (115, .agg #[h]) w := by kernel_rfl
theorem AsX.methodImplements (h : Value) (w : World) : (Go.method 281 119 (.agg #[h]) "Implements").run Tryd.prog w = .ok (116, .agg #[h]) w := by kernel_rfl
theorem AsX.methodAssignableTo (h : Value) (w : World) : (Go.method 281 119 (.agg #[h]) "AssignableTo").run Tryd.prog w = .ok (113, .agg #[h]) w := by kernel_rfl
theorem AsX.elem27 (w : World) : (ReflectliteType.method ReflectliteType.elem #[.agg #[.pointer (some ⟨2, 86, none⟩)]]).run Tryd.prog w = .ok (.iface 119 (.agg #[.pointer (some ⟨2, 84, none⟩)])) w := by kernel_rfl
theorem AsX.implements25 (w : World) : (ReflectliteType.relation "Implements" ReflectliteType.implements_ #[.agg #[.pointer (some ⟨2, 84, none⟩)], .iface 119 (.agg #[.pointer (some ⟨2, 35, none⟩)])]).run Tryd.prog w = .ok (.bool true) w := by kernel_rfl
theorem AsX.typeOf25 (v : Value) (w : World) : (ReflectliteType.typeOf #[.iface 84 v]).run Tryd.prog w = .ok (.iface 119 (.agg #[.pointer (some ⟨2, 84, none⟩)])) w := by kernel_rfl
theorem AsX.assignable25 (w : World) : (ReflectliteType.relation "AssignableTo" ReflectliteType.assignableTo #[.agg #[.pointer (some ⟨2, 84, none⟩)], .iface 119 (.agg #[.pointer (some ⟨2, 84, none⟩)])]).run Tryd.prog w = .ok (.bool true) w := by kernel_rfl
theorem AsX.valueOf25 (p : Addr) (w : World) : (ReflectliteValue.unpack (.iface 84 (.pointer (some p)))).run Tryd.prog w
    = .ok (.agg #[.pointer (some ⟨2, 84, none⟩), .pointer (some ⟨w.heap.size, 0, none⟩), .int .u64 150]) (w.alloc (.cells #[.pointer (some p)] 84)) := by kernel_rfl

theorem AsX.elemOf27 (w : World) : (Rtype.elem? 86).run Tryd.prog w = .ok (some 84) w := by kernel_rfl
theorem AsX.mk25 (p : Addr) (w : World) : (ReflectliteValue.mk 84 p ReflectliteValue.flagAddr).run Tryd.prog w = .ok (.agg #[.pointer (some ⟨2, 84, none⟩), .pointer (some p), .int .u64 406]) w := by kernel_rfl
theorem AsX.elemV27 (a p : Addr) (W : World) (ha : W.cell? a = some (.pointer (some p))) :
    (ReflectliteValue.method (ReflectliteValue.valueError "reflectlite.Value.Elem" 0) ReflectliteValue.elem #[.agg #[.pointer (some ⟨2, 86, none⟩), .pointer (some a), .int .u64 150]]).run Tryd.prog W
      = .ok (.agg #[.pointer (some ⟨2, 84, none⟩), .pointer (some p), .int .u64 406]) W := by
  rw [rlm]
  simp only [Sem.run_bind, AsX.parts27, Result.andThen]
  simp [ReflectliteValue.elem, loadVar, isAgg, underlying, Tryd.underlying86, ha, Result.andThen, AsX.elemOf27, AsX.mk25]
theorem AsX.parts25a (a : Addr) (w : World) : (ReflectliteValue.parts (.agg #[.pointer (some ⟨2, 84, none⟩), .pointer (some a), .int .u64 406])).run Tryd.prog w = .ok (some (84, a, 406)) w := by kernel_rfl
theorem AsX.parts25 (a : Addr) (w : World) : (ReflectliteValue.parts (.agg #[.pointer (some ⟨2, 84, none⟩), .pointer (some a), .int .u64 150])).run Tryd.prog w = .ok (some (84, a, 150)) w := by kernel_rfl
theorem AsX.direct25 (w : World) : (Rtype.directlyAssignable 84 84).run Tryd.prog w = .ok true w := by kernel_rfl
theorem AsX.set25 (ta b p : Addr) (old : Value) (W : World) (hb : W.cell? b = some (.pointer (some p))) (ht : W.cell? ta = some old) (hf : W.frozen? ta = false) :
    (ReflectliteValue.set #[.agg #[.pointer (some ⟨2, 84, none⟩), .pointer (some ta), .int .u64 406], .agg #[.pointer (some ⟨2, 84, none⟩), .pointer (some b), .int .u64 150]]).run Tryd.prog W
      = .ok (.tuple #[]) (W.setCell ta (.pointer (some p))) := by
  rw [rls]
  simp only [Sem.run_bind, AsX.parts25a, AsX.parts25, Result.andThen]
  simp [ReflectliteValue.flagAddr, loadVar, isAgg, underlying, Tryd.underlying84, hb, Result.andThen, AsX.direct25, storeVar, Value.cells, storeCells, Addr.add]
  rw [run_store Tryd.prog W ta _ _ (by rfl)]
  simp [ht, hf]

set_option maxRecDepth 20000 in
set_option maxHeartbeats 4000000 in
theorem as_hitW (p : Addr) (t : Addr) (old : Value) (w : World) (hg : w.cell? ⟨0, 0, none⟩ = some (.iface 119 (.agg #[.pointer (some ⟨2, 35, none⟩)]))) (ht0 : w.cell? t = some old) (hf0 : w.frozen? t = false) :
    Calls Tryd.prog 43 #[.iface 84 (.pointer (some p)), .iface 86 (.pointer (some t))] w fun ev w' => ev = .returned (.bool true) ∧ w' = ((((w.alloc (.cells #[.pointer (some t)] 86)).alloc (.cells #[.pointer (some ⟨2, 86, none⟩), .pointer (some ⟨w.heap.size, 0, none⟩), .int .u64 150] 105)).alloc (.cells #[.pointer (some ⟨2, 86, none⟩), .pointer (some ⟨w.heap.size, 0, none⟩), .int .u64 150] 105)).alloc (.cells #[.pointer (some p)] 84)).setCell t (.pointer (some p)) := by
  have h6 := @run_callFunc_extern Tryd.prog 59 _ (fun args => ReflectliteValue.unpack (args.getD 0 (.tuple #[]))) Tryd.func59 (by kernel_rfl) (by kernel_rfl) (by kernel_rfl) (by kernel_rfl)
  have h7 := @run_callFunc_extern Tryd.prog 60 _ (ReflectliteValue.methodAny (ReflectliteValue.valueError "reflectlite.Value.Type" 0) (fun t _ _ _ => ReflectliteType.toType t)) Tryd.func60 (by kernel_rfl) (by kernel_rfl) (by kernel_rfl) (by kernel_rfl)
  have h8 := @run_callFunc_extern Tryd.prog 61 _ (ReflectliteValue.method (ReflectliteValue.valueError "reflectlite.Value.IsNil" 0) ReflectliteValue.isNil) Tryd.func61 (by kernel_rfl) (by kernel_rfl) (by kernel_rfl) (by kernel_rfl)
  have h27 := @run_callFunc_extern Tryd.prog 103 _ (ReflectliteType.abiMethod fun t => do pure (.int .u8 (← Rtype.kind t))) Tryd.func103 (by kernel_rfl) (by kernel_rfl) (by kernel_rfl) (by kernel_rfl)
  have h37 := @run_callFunc_extern Tryd.prog 115 _ (ReflectliteType.method ReflectliteType.elem) Tryd.func115 (by kernel_rfl) (by kernel_rfl) (by kernel_rfl) (by kernel_rfl)
  have h38 := @run_callFunc_extern Tryd.prog 116 _ (ReflectliteType.relation "Implements" ReflectliteType.implements_) Tryd.func116 (by kernel_rfl) (by kernel_rfl) (by kernel_rfl) (by kernel_rfl)
  have h10 := @run_callFunc_extern Tryd.prog 70 _ ReflectliteType.typeOf Tryd.func70 (by kernel_rfl) (by kernel_rfl) (by kernel_rfl) (by kernel_rfl)
  have h35 := @run_callFunc_extern Tryd.prog 113 _ (ReflectliteType.relation "AssignableTo" ReflectliteType.assignableTo) Tryd.func113 (by kernel_rfl) (by kernel_rfl) (by kernel_rfl) (by kernel_rfl)
  have h11 := @run_callFunc_extern Tryd.prog 71 _ (ReflectliteValue.method (ReflectliteValue.valueError "reflectlite.Value.Elem" 0) ReflectliteValue.elem) Tryd.func71 (by kernel_rfl) (by kernel_rfl) (by kernel_rfl) (by kernel_rfl)
  have h12 := @run_callFunc_extern Tryd.prog 72 _ ReflectliteValue.set Tryd.func72 (by kernel_rfl) (by kernel_rfl) (by kernel_rfl) (by kernel_rfl)
  have tO := AsX.typeOf25
  have mA := AsX.methodAssignableTo
  have a25 := AsX.assignable25
  have v25 := AsX.valueOf25
  have f6 := AsX.valueOf27
  have f7 := AsX.type27
  have mK := AsX.methodKind
  have mE := AsX.methodElem
  have mI := AsX.methodImplements
  have k27 := AsX.kind27
  have k25 := AsX.kind25
  have e27 := AsX.elem27
  have i25 := AsX.implements25
  have n8 := AsX.isNil27 ⟨w.heap.size, 0, none⟩ t ((w.alloc (.cells #[.pointer (some t)] 86)).alloc (.cells #[.pointer (some ⟨2, 86, none⟩), .pointer (some ⟨w.heap.size, 0, none⟩), .int .u64 150] 105)) (by simp)
  have hlt : 0 < w.heap.size := by
    rcases Nat.eq_zero_or_pos w.heap.size with h0 | h
    · simp [World.cell?, h0] at hg
    · exact h
  have hg2 : ((w.alloc (.cells #[.pointer (some t)] 86)).alloc (.cells #[.pointer (some ⟨2, 86, none⟩), .pointer (some ⟨w.heap.size, 0, none⟩), .int .u64 150] 105)).cell? ⟨0, 0, none⟩ = some (.iface 119 (.agg #[.pointer (some ⟨2, 35, none⟩)])) := by
    rw [World.cell?_alloc_lt _ _ ⟨0, 0, none⟩ (by simp), World.cell?_alloc_lt _ _ ⟨0, 0, none⟩ hlt]; exact hg
  have htl : t.block < w.heap.size := by
    rcases Nat.lt_or_ge t.block w.heap.size with h | h
    · exact h
    · simp [World.cell?, Array.getElem?_eq_none h] at ht0
  have el := AsX.elemV27 ⟨w.heap.size, 0, none⟩ t (((w.alloc (.cells #[.pointer (some t)] 86)).alloc (.cells #[.pointer (some ⟨2, 86, none⟩), .pointer (some ⟨w.heap.size, 0, none⟩), .int .u64 150] 105)).alloc (.cells #[.pointer (some ⟨2, 86, none⟩), .pointer (some ⟨w.heap.size, 0, none⟩), .int .u64 150] 105)) (by rw [World.cell?_alloc_lt _ _ ⟨w.heap.size, 0, none⟩ (by simp; omega)]; simp)
  have st := AsX.set25 t ⟨w.heap.size + 1 + 1 + 1, 0, none⟩ p old ((((w.alloc (.cells #[.pointer (some t)] 86)).alloc (.cells #[.pointer (some ⟨2, 86, none⟩), .pointer (some ⟨w.heap.size, 0, none⟩), .int .u64 150] 105)).alloc (.cells #[.pointer (some ⟨2, 86, none⟩), .pointer (some ⟨w.heap.size, 0, none⟩), .int .u64 150] 105)).alloc (.cells #[.pointer (some p)] 84))
    (by rw [World.cell?_alloc_at _ _ _ _ (by simp)]; rfl)
    (by rw [World.cell?_alloc_lt _ _ t (by simp; omega), World.cell?_alloc_lt _ _ t (by simp; omega), World.cell?_alloc_lt _ _ t (by simp; omega), World.cell?_alloc_lt _ _ t htl]; exact ht0)
    (by rw [World.frozen?_alloc_old _ _ t (by simp; omega), World.frozen?_alloc_old _ _ t (by simp; omega), World.frozen?_alloc_old _ _ t (by simp; omega), World.frozen?_alloc_old _ _ t (Nat.ne_of_lt htl)]; exact hf0)
  go_enter Tryd.func43, Tryd.ntmps43
  go_wp2
  refine wp_loop_rounds 1 ?_
  rw [rounds_succ]
  go_wp2
  go_ret
  exact ⟨rfl, rfl⟩
end Gv.Tryd
/- errors.As at **oops.Which: the error is a plain api.Errno. -/
namespace Gv.Tryd
open Go Go.Proofs Go.RowKit Go.Extern.Stop Go.Stop Go.Extern
theorem AsM.typeOf (v : Value) (w : World) : (ReflectliteType.typeOf #[.iface 60 v]).run Tryd.prog w = .ok (.iface 119 (.agg #[.pointer (some ⟨2, 60, none⟩)])) w := by kernel_rfl
theorem AsM.notAssignable (w : World) : (ReflectliteType.relation "AssignableTo" ReflectliteType.assignableTo #[.agg #[.pointer (some ⟨2, 60, none⟩)], .iface 119 (.agg #[.pointer (some ⟨2, 84, none⟩)])]).run Tryd.prog w = .ok (.bool false) w := by kernel_rfl
theorem AsM.noAs (v : Value) (xT : TypeId) (w : World) : (Instr.typeAssert (.iface 60 v) xT 124 true).run Tryd.prog w = .ok (.tuple #[.nilIface, .bool false]) w := run_typeAssert_lacksB Tryd.underlying124 (by kernel_rfl) (by kernel_rfl) v xT w
end Gv.Tryd
/- Kind of an error, for seat u: nil, an api.Errno, an oops.Which about an api.Errno. -/
set_option linter.unusedVariables false
namespace Gv.Tryd
open Go Gv Go.Proofs Go.RowKit
theorem cell_size {w : World} {t : Addr} {v : Value} (h : w.cell? t = some v) : t.block < w.heap.size := by
  rcases Nat.lt_or_ge t.block w.heap.size with h1 | h1
  · exact h1
  · simp [World.cell?, Array.getElem?_eq_none h1] at h
theorem after4 (w : World) (t : Addr) (old v : Value) (o1 o2 o3 o4 : Obj) (ht0 : w.cell? t = some old) :
    ((((((w.alloc o1).alloc o2).alloc o3).alloc o4).setCell t v)).cell? t = some v ∧ Below t.block w ((((((w.alloc o1).alloc o2).alloc o3).alloc o4).setCell t v)) := by
  have htl := cell_size ht0
  have b0 : Below t.block w w := Below.refl _ _
  refine ⟨?_, (((((b0.alloc (by omega) _).alloc (by simp; omega) _).alloc (by simp; omega) _).alloc (by simp; omega) _).setCell (Nat.le_refl _) _)⟩
  refine World.cell?_setCell_same _ t _ (u := old) ?_
  rw [World.cell?_alloc_lt _ _ t (by simp; omega), World.cell?_alloc_lt _ _ t (by simp; omega), World.cell?_alloc_lt _ _ t (by simp; omega), World.cell?_alloc_lt _ _ t htl]; exact ht0
theorem as_wrapB (b0 off : Nat) (e : Int) (t : Addr) (old : Value) (w : World) (hp : w.cell? ⟨b0, off + 32, none⟩ = some (.iface 60 (.int .i64 e))) (hg : w.cell? ⟨0, 0, none⟩ = some (.iface 119 (.agg #[.pointer (some ⟨2, 35, none⟩)]))) (ht0 : w.cell? t = some old) (hf0 : w.frozen? t = false) :
    Calls Tryd.prog 43 #[.iface 84 (.pointer (some ⟨b0, off, none⟩)), .iface 89 (.pointer (some t))] w fun ev w' => ev = .returned (.bool true) ∧ w'.cell? t = some (.int .i64 e) ∧ Below t.block w w' := by
  refine (as_wrap b0 off e t old w hp hg ht0 hf0).mono ?_
  rintro ev w' ⟨rfl, rfl⟩
  obtain ⟨h1, h2⟩ := after4 w t old _ _ _ _ _ ht0
  exact ⟨rfl, h1, h2⟩
set_option maxRecDepth 20000 in
set_option maxHeartbeats 4000000 in
theorem kind_which (b0 off : Nat) (n : Int) (w : World) (hp : w.cell? ⟨b0, off + 32, none⟩ = some (.iface 60 (.int .i64 n))) (hg : w.cell? ⟨0, 0, none⟩ = some (.iface 119 (.agg #[.pointer (some ⟨2, 35, none⟩)]))) :
    Calls Tryd.prog 26 #[.iface 84 (.pointer (some ⟨b0, off, none⟩))] w fun e w' => e = .returned (.int .i64 n) ∧ Below w.heap.size w w' := by
  have hlt := cell_size hg
  have hlp := cell_size hp
  have ht := as_wrapB b0 off n ⟨w.heap.size, 0, none⟩ (.int .i64 0) (w.alloc (.cells #[.int .i64 0] 60)) (by rw [World.cell?_alloc_lt _ _ ⟨b0, off + 32, none⟩ hlp]; exact hp) (by rw [World.cell?_alloc_lt _ _ ⟨0, 0, none⟩ hlt]; exact hg) (by simp) (by simp)
  go_enter Tryd.func26, Tryd.ntmps26
  go_wp2_with (go_at_call 43; refine ht.mono ?_; rintro e w' ⟨rfl, hc, hb⟩)
  go_ret
  exact ⟨rfl, ((Below.refl _ w).alloc (Nat.le_refl _) _).trans hb⟩
end Gv.Tryd
/- Kind of an error; errors.As at the program's *oops.Which: the contracts. -/
set_option linter.unusedVariables false
namespace Gv.Tryd
open Go Gv Go.Proofs Go.RowKit
theorem glob_cell {E : Env} {O : List GObj} {w : World} (h : HSim E O w) : w.cell? ⟨0, 0, none⟩ = some (.iface 119 (.agg #[.pointer (some ⟨2, 35, none⟩)])) :=
  h.sealed _ _ _ (h.glob (0, 0, .iface 119 (.agg #[.pointer (some ⟨2, 35, none⟩)])) (by simp [globs]))
theorem args_one {E : Env} {vs : Array Value} {g : GVal} (h : ArgsR E vs [g]) : ∃ v, vs = #[v] ∧ VR E v g := by
  obtain ⟨h1, h2⟩ := h
  have h3 := h2 0 _ rfl
  refine ⟨vs.getD 0 undef, ?_, h3⟩
  apply Array.ext (by simpa using h1)
  intro i hi hi2
  simp at hi2; subst hi2
  simp [Array.getD, hi]
theorem args_two {E : Env} {vs : Array Value} {g k : GVal} (h : ArgsR E vs [g, k]) : ∃ v u, vs = #[v, u] ∧ VR E v g ∧ VR E u k := by
  obtain ⟨h1, h2⟩ := h
  have h3 := h2 0 _ rfl
  have h4 := h2 1 _ rfl
  have hs : vs.size = 2 := by simpa using h1
  refine ⟨vs.getD 0 undef, vs.getD 1 undef, ?_, h3, h4⟩
  apply Array.ext (by simpa using h1)
  intro i hi hi2
  match i with
  | 0 => simp [Array.getD, hs]
  | 1 => simp [Array.getD, hs]
  | i + 2 => omega
theorem hKindWhich (gs : List GVal) (n : Int) (h32 : gs.length = 32) : GPure Tryd.prog 26 [.iface 84 (.ref (gs ++ [.iface 60 (.int .i64 n)]))] (.int .i64 n) :=
  GPure.ofBelow (by kernel_rfl) fun E w vs hs ha => by
    obtain ⟨v, rfl, hv⟩ := args_one ha
    cases hv with
    | iface t v g h =>
      cases h with
      | ref b off _ c hsn hc =>
        have h1 := hs.sealed _ _ _ (hsn 32 (by simp [h32]))
        have h2 := hc 32 _ (by rw [List.getElem?_append_right (by omega), h32]; rfl)
        generalize hq : c 32 = x at h1 h2
        cases h2 with
        | iface t v g h3 =>
          cases h3
          exact (kind_which b off n w h1 (glob_cell hs)).mono fun e w' ⟨h1, h2⟩ => ⟨_, h1, h2, .int _ _⟩
theorem storeW (t p : Addr) (old : Value) (W : World) (ht : W.cell? t = some old) (hf : W.frozen? t = false) :
    (Instr.storeAt 84 (.pointer (some t)) (.pointer (some p))).run Tryd.prog W = .ok () (W.setCell t (.pointer (some p))) := by
  have h84 : tab Tryd.prog 84 = some (1, false) := by kernel_rfl
  simp only [Instr.storeAt, Instr.sureAddr, storeVar, Sem.run_bind, Sem.run_pure, Result.andThen_ok, (tab_spec h84 W).1]
  simp [Value.cells, storeCells, Addr.add]
  rw [run_store Tryd.prog W t _ _ (by rfl)]
  simp [ht, hf]
theorem hAsWhich (gs : List GVal) (O : List GObj) (o st : Nat) (g0 : GVal) (hO : O[o]? = some (.row st 1 [[g0]])) (hsol : (GVal.ref gs).solid = true) :
    GCalls Tryd.prog 43 [.iface 84 (.ref gs), .iface 86 (.ptr o st 0 0)] O (fun g O' => g = .bool true ∧ O' = O.set o (.row st 1 [[.ref gs]])) := by
  refine ⟨by kernel_rfl, fun E w vs hs ha => ?_⟩
  obtain ⟨v, u, rfl, hv, hu⟩ := args_two ha
  cases hv with
  | iface t v g h =>
    cases h with
    | ref b off _ c hsn hc =>
      cases hu with
      | iface t u g h =>
        cases h with
        | ptr b2 off2 o st i j l hl hb ho =>
          obtain ⟨l', hl', hls, hsz, hreal⟩ := hs.real _ _ hO
          rw [hl] at hl'; cases hl'
          simp only [hb] at hreal
          obtain ⟨cur, el, hw, hcur, htot, hrows, hsnap⟩ := hreal
          have e2 : off2 < cur.size := by simp at htot; rw [hcur, ho]; omega
          have ht0 : w.cell? ⟨b2, off2, none⟩ = some cur[off2] := by
            simp [World.cell?, hw, e2]
          have hf0 : w.frozen? ⟨b2, off2, none⟩ = false := by
            simp [World.frozen?, hw]
          refine (as_hitW ⟨b, off, none⟩ ⟨b2, off2, none⟩ _ w (glob_cell hs) ht0 hf0).mono ?_
          rintro ev w' ⟨rfl, rfl⟩
          have htl := cell_size ht0
          have hBelow := ((((Below.refl w.heap.size w).alloc (Nat.le_refl _) (.cells #[.pointer (some ⟨b2, off2, none⟩)] 86)).alloc (by simp) (.cells #[.pointer (some ⟨2, 86, none⟩), .pointer (some ⟨w.heap.size, 0, none⟩), .int .u64 150] 105)).alloc (by simp; omega) (.cells #[.pointer (some ⟨2, 86, none⟩), .pointer (some ⟨w.heap.size, 0, none⟩), .int .u64 150] 105)).alloc (by simp; omega) (.cells #[.pointer (some ⟨b, off, none⟩)] 84)
          obtain ⟨s1, k1⟩ := hs.belowO hBelow
          have ht4 : ((((w.alloc (.cells #[.pointer (some ⟨b2, off2, none⟩)] 86)).alloc (.cells #[.pointer (some ⟨2, 86, none⟩), .pointer (some ⟨w.heap.size, 0, none⟩), .int .u64 150] 105)).alloc (.cells #[.pointer (some ⟨2, 86, none⟩), .pointer (some ⟨w.heap.size, 0, none⟩), .int .u64 150] 105)).alloc (.cells #[.pointer (some ⟨b, off, none⟩)] 84)).cell? ⟨b2, off2, none⟩ = some cur[off2] := by
            have htl' : b2 < w.heap.size := htl
            rw [World.cell?_alloc_lt _ _ _ (by simp; omega), World.cell?_alloc_lt _ _ _ (by simp; omega), World.cell?_alloc_lt _ _ _ (by simp; omega), World.cell?_alloc_lt _ _ _ htl']; exact ht0
          have hf4 : ((((w.alloc (.cells #[.pointer (some ⟨b2, off2, none⟩)] 86)).alloc (.cells #[.pointer (some ⟨2, 86, none⟩), .pointer (some ⟨w.heap.size, 0, none⟩), .int .u64 150] 105)).alloc (.cells #[.pointer (some ⟨2, 86, none⟩), .pointer (some ⟨w.heap.size, 0, none⟩), .int .u64 150] 105)).alloc (.cells #[.pointer (some ⟨b, off, none⟩)] 84)).frozen? ⟨b2, off2, none⟩ = false := by
            have htl' : b2 < w.heap.size := htl
            rw [World.frozen?_alloc_old _ _ _ (by simp; omega), World.frozen?_alloc_old _ _ _ (by simp; omega), World.frozen?_alloc_old _ _ _ (by simp; omega), World.frozen?_alloc_old _ _ _ (Nat.ne_of_lt htl')]; exact hf0
          generalize ((((w.alloc (.cells #[.pointer (some ⟨b2, off2, none⟩)] 86)).alloc (.cells #[.pointer (some ⟨2, 86, none⟩), .pointer (some ⟨w.heap.size, 0, none⟩), .int .u64 150] 105)).alloc (.cells #[.pointer (some ⟨2, 86, none⟩), .pointer (some ⟨w.heap.size, 0, none⟩), .int .u64 150] 105)).alloc (.cells #[.pointer (some ⟨b, off, none⟩)] 84)) = w4 at s1 k1 ht4 hf4 ⊢
          obtain ⟨w5, E5, O5, hrun, s5, k5, rfl⟩ := store_sound (P := Tryd.prog) (t := 84) (g := .ptr o st 0 0) (v := .ref gs) (KU := fun O' => O' = O.set o (.row st 1 [[.ref gs]])) s1 (.ptr b2 off2 o st 0 0 l hl hb ho) (.ref b off gs c hsn hc) (by
            have h84 : tab Tryd.prog 84 = some (1, false) := by kernel_rfl
            simp only [storeV, h84, hO]
            simp [GVal.okCells, GVal.cells, splice, hsol])
          rw [storeW _ _ _ _ ht4 hf4] at hrun
          cases hrun
          exact ⟨_, _, _, _, rfl, s5, k1.trans k5, .bool true, rfl, rfl⟩
end Gv.Tryd
/- Whose hash an error tells. -/
set_option linter.unusedVariables false
set_option linter.unusedSimpArgs false
set_option maxRecDepth 20000
set_option maxHeartbeats 4000000
namespace Gv.Tryd
open Go Gv Go.Proofs
theorem gWhose (h : Hs) (n : Int) : GPure Tryd.prog 24 [whichG h n] (.tuple [.agg (bytesG h.1), .bool true]) := by
  have hs33 : (GVal.ref (bytesG h.1 ++ [errG n])).solid = true := by simp [GVal.solid, solidH, errG]
  refine h24.pure mixS (by simp) ?_
  simp only [gstart, s24, List.cons_append, List.nil_append, List.length_cons, List.length_nil, Nat.reduceAdd, Nat.reduceSub, List.replicate_succ, List.replicate_zero]
  simp +contextual -implicitDefEqProofs (maxSteps := 2000000) (disch := omega) only [binV, ↓loadV, ↓storeV, ↓fieldAddrV, ↓allocV, ↓buildV, ↓nilV, ↓ifaceV, fillG, place, GVal.cells, grp, GVal.ofConst, ↓resV, resG, List.map, List.headD, List.take, List.drop, ↓reduceIte, Nat.reduceEqDiff, Nat.reduceAdd, Nat.reduceSub, Nat.reduceLeDiff, reduceCtorEq, implies_true, ne_eq, aggV, Tag.cap, List.replicate, allSolid, GVal.solid, Nat.reduceBEq, Nat.reduceMul, Nat.reduceLT, List.length_map, List.length_range, splice, vcA, ↓vcB, vcC, fbFu, e24]
  intro s1
  refine ⟨rfl, fun s2 => ?_⟩
  refine (hAsWhich (bytesG h.1 ++ [errG n]) _ 1 s2 _ rfl hs33).mono ?_
  rintro g O' ⟨rfl, rfl⟩
  simp +contextual -implicitDefEqProofs (maxSteps := 2000000) (disch := omega) only [binV, ↓loadV, ↓storeV, ↓fieldAddrV, ↓allocV, ↓buildV, ↓nilV, ↓ifaceV, fillG, place, GVal.cells, grp, GVal.ofConst, ↓resV, resG, List.map, List.headD, List.take, List.drop, ↓reduceIte, Nat.reduceEqDiff, Nat.reduceAdd, Nat.reduceSub, Nat.reduceLeDiff, reduceCtorEq, implies_true, ne_eq, aggV, Tag.cap, List.replicate, allSolid, GVal.solid, Nat.reduceBEq, Nat.reduceMul, Nat.reduceLT, List.length_map, List.length_range, splice, vcA, ↓vcB, vcC, fbFu, e24, len32, take32, solidH, List.set, bytesG_len]
  have h32 : (bytesG h.1).length = 32 := len32 h
  have e1 : List.take 32 (bytesG h.1 ++ [errG n]) = bytesG h.1 := List.take_left' h32
  have e2 : ∀ X, List.take 32 (bytesG h.1 ++ X) = bytesG h.1 := fun X => List.take_left' h32
  simp only [e1, e2, h32, List.length_append]
  exact ⟨by omega, by simp, of_eq_true (solidH h), trivial, by simp, of_eq_true (leG_self _)⟩
end Gv.Tryd
/- The graph's Check, Count; the example of chapter 11. -/
set_option linter.unusedVariables false
set_option linter.unusedSimpArgs false
set_option maxRecDepth 20000
set_option maxHeartbeats 4000000
namespace Gv.Tryd
open Go Gv Go.Proofs
theorem gCount (m : GM) (hm : m.length ≤ 1000000) (st s : Nat) : GCalls Tryd.prog 11 [.ptr 0 st 0 0] (gObj st s m) (fun g O' => g = .int .i64 m.length ∧ O' = gObj st s m) := by
  refine h11.calls mixS (by simp) ?_
  simp only [gstart, s11, List.cons_append, List.nil_append, List.length_cons, List.length_nil, Nat.reduceAdd, Nat.reduceSub, List.replicate_succ, List.replicate_zero]
  simp +contextual -implicitDefEqProofs (maxSteps := 2000000) (disch := omega) only [↓lenV, ↓loadV, ↓fieldAddrV, ↓nilV, GVal.cells, grp, GVal.ofConst, ↓resV, resG, List.map, List.headD, List.take, List.drop, ↓reduceIte, Nat.reduceEqDiff, Nat.reduceAdd, Nat.reduceSub, Nat.reduceLeDiff, reduceCtorEq, implies_true, ne_eq, Tag.cap, List.replicate, allSolid, GVal.solid, Nat.reduceBEq, Nat.reduceMul, Nat.reduceLT, List.length_map, List.length_range, splice, vcA, ↓vcB, vcC, fbFu, e11, kvG_len]
theorem gCheckE (m : GM) (hm : GOK m) (cs : List Cm) (hs : List Hs) (th : Tag) (gr : Int) (st s : Nat) (hc : cs.length ≤ 1000000) (hh : hs.length ≤ 1000000) (hp : ∀ c ∈ cs, c.2.length ≤ 1000000) (e : Option Hs × Int) (he : joinedP gr m cs hs = .error e) :
    GCalls Tryd.prog 22 [.ptr 0 st 0 0, .agg (reqG cs hs th gr)] (gObj st s m) (fun g O' => g = errV (some e) ∧ O' = gObj st s m) := by
  have c1 := gJoinedBy m hm cs hs th gr st s hc hh hp
  rw [he] at c1
  obtain ⟨ty, v, ev⟩ := errV_some e
  refine h22.calls mixS (by simp) ?_
  simp only [gstart, s22, List.cons_append, List.nil_append, List.length_cons, List.length_nil, Nat.reduceAdd, Nat.reduceSub, List.replicate_succ, List.replicate_zero]
  simp +contextual -implicitDefEqProofs (maxSteps := 2000000) (disch := omega) only [↓loadV, ↓boxV, GVal.cells, grp, GVal.ofConst, ↓resV, resG, List.map, List.headD, List.take, List.drop, ↓reduceIte, Nat.reduceEqDiff, Nat.reduceAdd, Nat.reduceSub, Nat.reduceLeDiff, reduceCtorEq, implies_true, ne_eq, Tag.cap, List.replicate, allSolid, GVal.solid, Nat.reduceBEq, Nat.reduceMul, Nat.reduceLT, List.length_map, List.length_range, splice, vcA, ↓vcB, vcC, fbFu, e22]
  refine c1.mono ?_
  rintro g O' ⟨s2, rfl, rfl⟩
  simp +contextual -implicitDefEqProofs (maxSteps := 2000000) (disch := omega) only [↓loadV, ↓boxV, GVal.cells, grp, GVal.ofConst, ↓resV, resG, List.map, List.headD, List.take, List.drop, ↓reduceIte, Nat.reduceEqDiff, Nat.reduceAdd, Nat.reduceSub, Nat.reduceLeDiff, reduceCtorEq, implies_true, ne_eq, Tag.cap, List.replicate, allSolid, GVal.solid, Nat.reduceBEq, Nat.reduceMul, Nat.reduceLT, List.length_map, List.length_range, splice, vcA, ↓vcB, vcC, fbFu, e22, jdV, jdO, ev]
theorem known_err : joinedP 2 [] [(q1, [q2])] [] = .error (some q2, 10) := by
  have h1 : sizesP 2 0 [(q1, [q2])] = none := by kernel_rfl
  have h2 : joinP [] [(q1, [q2])] = .ok [(q1, [q2])] := by kernel_rfl
  have h3 : lackP [(q1, [q2])] [(q1, [q2])] [] = some (some q2, 10) := by kernel_rfl
  unfold joinedP
  simp only [List.length_nil, h1, h2, h3]
theorem known_ok : joinedP 2 [] [(q1, [])] [] = .ok [(q1, [])] := by
  have h1 : sizesP 2 0 [(q1, [])] = none := by kernel_rfl
  have h2 : joinP [] [(q1, [])] = .ok [(q1, [])] := by kernel_rfl
  have h3 : lackP [(q1, [])] [(q1, [])] [] = none := by kernel_rfl
  have h4 : roundP [] [(q1, [])] [(q1, [])] = none := roundP_rank rkQ (by decide) (by decide)
  unfold joinedP
  simp only [List.length_nil, h1, h2, h3, h4]
  rfl
theorem gKnown11 : GPure Tryd.prog 8 [] (.bool true) := by
  have cA := fun st s => gAdd [] fourG [(q1, [])] st s (by decide) (by decide)
  have ea : addedE [] [(q1, [])] = none := by unfold addedE; rw [known_ok]
  have em : addedM [] [(q1, [])] = [(q1, [])] := by unfold addedM; rw [known_ok]
  simp only [ea, em] at cA
  have cC := fun st s => gCheckE [] fourG [(q1, [q2])] [] .nil 2 st s (by decide) (by decide) (by decide) _ known_err
  have aC : ∀ st, GLes [.ptr 0 st 0 0, .agg [.slice [bytesG q1.1 ++ [.slice [bytesG q2.1] .full]] .full, .slice [] .nil, .int .i64 2]] [.ptr 0 st 0 0, .agg (reqG [(q1, [q2])] [] .nil 2)] := fun st =>
    ⟨GLe.refl _, GLe.agg ⟨GLe.trans GLe.none (GLe.slice ⟨GLes.app (GLes.refl _) ⟨GLe.none, trivial⟩, trivial⟩), GLe.refl _, GLe.refl _, trivial⟩, trivial⟩
  have aA : ∀ st, GLes [.ptr 0 st 0 0, .slice [bytesG q1.1 ++ [.slice [] .nil]] .full] [.ptr 0 st 0 0, .slice (csG [(q1, [])]) .none] := fun st =>
    ⟨GLe.refl _, GLe.trans GLe.none (GLe.slice ⟨GLes.app (GLes.refl _) ⟨GLe.none, trivial⟩, trivial⟩), trivial⟩
  have cW := gWhose q2 10
  have cK := hKindWhich (bytesG q2.1) 10 (len32 q2)
  have cH := fun st s => gHas [(q1, [])] q1 st s
  have eH : (look [(q1, ([] : List Hs))] q1).isSome = true := by kernel_rfl
  simp only [eH] at cH
  have cN := fun st s => gCount [(q1, [])] (by decide) st s
  refine GCalls.toPure ?_
  refine h8.calls mixS (by simp) ?_
  simp only [gstart, s8, List.cons_append, List.nil_append, List.length_cons, List.length_nil, Nat.reduceAdd, Nat.reduceSub, List.replicate_succ, List.replicate_zero]
  simp +contextual -implicitDefEqProofs (maxSteps := 2000000) (disch := omega) only [binV, ↓loadV, ↓storeV, ↓allocV, ↓buildV, ↓buildSliceV, fillG, fillE, place, GVal.cells, grp, GVal.ofConst, ↓resV, resG, List.map, List.headD, List.take, List.drop, ↓reduceIte, Nat.reduceEqDiff, Nat.reduceAdd, Nat.reduceSub, Nat.reduceLeDiff, reduceCtorEq, implies_true, ne_eq, aggV, Tag.cap, List.replicate, allSolid, GVal.solid, Nat.reduceBEq, Nat.reduceMul, Nat.reduceLT, List.length_map, List.length_range, splice, vcA, ↓vcB, vcC, fbFu, e8]
  refine gNew.mono ?_
  rintro g O' ⟨st, s, rfl, rfl⟩
  simp +contextual -implicitDefEqProofs (maxSteps := 2000000) (disch := omega) only [binV, ↓loadV, ↓storeV, ↓allocV, ↓buildV, ↓buildSliceV, fillG, fillE, place, GVal.cells, grp, GVal.ofConst, ↓resV, resG, List.map, List.headD, List.take, List.drop, ↓reduceIte, Nat.reduceEqDiff, Nat.reduceAdd, Nat.reduceSub, Nat.reduceLeDiff, reduceCtorEq, implies_true, ne_eq, aggV, Tag.cap, List.replicate, allSolid, GVal.solid, Nat.reduceBEq, Nat.reduceMul, Nat.reduceLT, List.length_map, List.length_range, splice, vcA, ↓vcB, vcC, fbFu, e8, qE1, qE2, qR1, qR2, len32, take32, take32a, drop32a, drop33a, take33a, len33, solid33, solidH]
  refine (GCalls.args (cC st s) (aC st)).mono ?_
  rintro g O' ⟨rfl, rfl⟩
  simp +contextual -implicitDefEqProofs (maxSteps := 2000000) (disch := omega) only [binV, ↓loadV, ↓storeV, ↓allocV, ↓buildV, ↓buildSliceV, fillG, fillE, place, GVal.cells, grp, GVal.ofConst, ↓resV, resG, List.map, List.headD, List.take, List.drop, ↓reduceIte, Nat.reduceEqDiff, Nat.reduceAdd, Nat.reduceSub, Nat.reduceLeDiff, reduceCtorEq, implies_true, ne_eq, aggV, Tag.cap, List.replicate, allSolid, GVal.solid, Nat.reduceBEq, Nat.reduceMul, Nat.reduceLT, List.length_map, List.length_range, splice, vcA, ↓vcB, vcC, fbFu, e8, errV]
  refine cW.then ?_ (by rfl)
  simp +contextual -implicitDefEqProofs (maxSteps := 2000000) (disch := omega) only [binV, ↓loadV, ↓storeV, ↓allocV, ↓buildV, ↓buildSliceV, fillG, fillE, place, GVal.cells, grp, GVal.ofConst, ↓resV, resG, List.map, List.headD, List.take, List.drop, ↓reduceIte, Nat.reduceEqDiff, Nat.reduceAdd, Nat.reduceSub, Nat.reduceLeDiff, reduceCtorEq, implies_true, ne_eq, aggV, Tag.cap, List.replicate, allSolid, GVal.solid, Nat.reduceBEq, Nat.reduceMul, Nat.reduceLT, List.length_map, List.length_range, splice, vcA, ↓vcB, vcC, fbFu, e8, len32, take32, solidH]
  intro s3
  refine cK.then ?_ (by rfl)
  simp +contextual -implicitDefEqProofs (maxSteps := 2000000) (disch := omega) only [binV, ↓loadV, ↓storeV, ↓allocV, ↓buildV, ↓buildSliceV, fillG, fillE, place, GVal.cells, grp, GVal.ofConst, ↓resV, resG, List.map, List.headD, List.take, List.drop, ↓reduceIte, Nat.reduceEqDiff, Nat.reduceAdd, Nat.reduceSub, Nat.reduceLeDiff, reduceCtorEq, implies_true, ne_eq, aggV, Tag.cap, List.replicate, allSolid, GVal.solid, Nat.reduceBEq, Nat.reduceMul, Nat.reduceLT, List.length_map, List.length_range, splice, vcA, ↓vcB, vcC, fbFu, e8, qE1, qE2, qR1, qR2, len32, take32, take32a, drop32a, drop33a, take33a, len33, solid33, solidH, cellsEq_hs q2 q2]
  refine (GCalls.on2 (R := fun g x' y' => g = errV none ∧ ∃ s', x' = .row st 1 [[.map 1 s']] ∧ y' = .map s' (kvG encL [(q1, [])])) (cA st s) (O := gObj st s [] ++ [.row s3 32 [bytesG q2.1]]) 0 1 (by omega) rfl rfl (.refl _) (aA st) rfl rfl (by rintro g x' y' ⟨_, s', rfl, rfl⟩; exact ⟨rfl, rfl⟩) rfl).mono ?_
  rintro g O' ⟨x', y', ⟨rfl, s', rfl, rfl⟩, rfl⟩
  simp +contextual -implicitDefEqProofs (maxSteps := 2000000) (disch := omega) only [binV, ↓loadV, ↓storeV, ↓allocV, ↓buildV, ↓buildSliceV, fillG, fillE, place, GVal.cells, grp, GVal.ofConst, ↓resV, resG, List.map, List.headD, List.take, List.drop, ↓reduceIte, Nat.reduceEqDiff, Nat.reduceAdd, Nat.reduceSub, Nat.reduceLeDiff, reduceCtorEq, implies_true, ne_eq, aggV, Tag.cap, List.replicate, allSolid, GVal.solid, Nat.reduceBEq, Nat.reduceMul, Nat.reduceLT, List.length_map, List.length_range, splice, vcA, ↓vcB, vcC, fbFu, e8, errV, qE1, qE2, qR1, qR2, len32, take32, take32a, drop32a, drop33a, take33a, len33, solid33, solidH, GObj.place, List.set, Tryd.underlying35]
  refine (GCalls.keep2 (cH st s') rfl [.row s3 32 [bytesG q2.1]]).mono ?_
  rintro g O' ⟨rfl, rfl⟩
  simp +contextual -implicitDefEqProofs (maxSteps := 2000000) (disch := omega) only [binV, ↓loadV, ↓storeV, ↓allocV, ↓buildV, ↓buildSliceV, fillG, fillE, place, GVal.cells, grp, GVal.ofConst, ↓resV, resG, List.map, List.headD, List.take, List.drop, ↓reduceIte, Nat.reduceEqDiff, Nat.reduceAdd, Nat.reduceSub, Nat.reduceLeDiff, reduceCtorEq, implies_true, ne_eq, aggV, Tag.cap, List.replicate, allSolid, GVal.solid, Nat.reduceBEq, Nat.reduceMul, Nat.reduceLT, List.length_map, List.length_range, splice, vcA, ↓vcB, vcC, fbFu, e8]
  refine (GCalls.keep2 (cN st s') rfl [.row s3 32 [bytesG q2.1]]).mono ?_
  rintro g O' ⟨rfl, rfl⟩
  simp +contextual -implicitDefEqProofs (maxSteps := 2000000) (disch := omega) only [binV, ↓loadV, ↓storeV, ↓allocV, ↓buildV, ↓buildSliceV, fillG, fillE, place, GVal.cells, grp, GVal.ofConst, ↓resV, resG, List.map, List.headD, List.take, List.drop, ↓reduceIte, Nat.reduceEqDiff, Nat.reduceAdd, Nat.reduceSub, Nat.reduceLeDiff, reduceCtorEq, implies_true, ne_eq, aggV, Tag.cap, List.replicate, allSolid, GVal.solid, Nat.reduceBEq, Nat.reduceMul, Nat.reduceLT, List.length_map, List.length_range, splice, vcA, ↓vcB, vcC, fbFu, e8]
  exact ⟨1, .bool true, rfl, by rw [leA_bool]⟩
end Gv.Tryd
/- GraphUnion. -/
set_option linter.unusedVariables false
set_option linter.unusedSimpArgs false
set_option maxRecDepth 20000
set_option maxHeartbeats 8000000
namespace Gv.Tryd
open Go Gv Go.Proofs
theorem good_nil0 : Good ([] : GM) := ⟨⟨by simp, by simp⟩, by simp, by intro x y h; simp [parsM, look] at h, by
  intro x h
  cases h with
  | base _ h => simp [parsM, look] at h
  | step _ _ _ h => simp [parsM, look] at h⟩
end Gv.Tryd
/- Plain laws of GraphOrders: the commits of a request that can be added can be added in any order, some of them twice. -/
set_option linter.unusedVariables false
set_option linter.unusedSimpArgs false
namespace Gv.Tryd
open Go Gv Go.Proofs
theorem join_any {M : GM} : ∀ (l : List Cm) (m : GM), (∀ h p, look m h = some p → look M h = some p) → (∀ c ∈ l, look M c.1 = some c.2) → ∃ M', joinP m l = .ok M' ∧ ∀ h p, look M' h = some p → look M h = some p
  | [], m, hm, _ => ⟨m, rfl, hm⟩
  | c :: r, m, hm, hl => by
    have hc := hl c (by simp)
    have hr := fun x hx => hl x (List.mem_cons_of_mem _ hx)
    rw [joinP]
    cases e : look m c.1 with
    | some p =>
      have : p = c.2 := by
        have := hm c.1 p e
        rw [hc] at this; cases this; rfl
      subst this
      have ej : joinE m c = .ok m := by unfold joinE; rw [e]; simp
      rw [ej]
      exact join_any r m hm hr
    | none =>
      have ej : joinE m c = .ok (mset m c.1 c.2) := by unfold joinE; rw [e]
      rw [ej]
      refine join_any r _ (fun h p hp => ?_) hr
      rw [look_mset] at hp
      split at hp
      · rename_i e2
        cases hp; rw [e2]; exact hc
      · exact hm h p hp
theorem sizes_any {cs l : List Cm} {n : Nat} (h : sizesP 2 0 cs = none) (hl : l.length ≤ 200) (hm : ∀ c ∈ l, c ∈ cs) : sizesP 2 0 l = none := by
  obtain ⟨_, _, _, n4⟩ := sizesP_none h
  unfold sizesP
  rw [if_neg (by unfold badReq; omega)]
  refine List.findSome?_eq_none_iff.2 fun c hc => ?_
  obtain ⟨a, b⟩ := n4 c (hm c hc)
  unfold sizeE
  rw [if_neg (by omega), b]
  rfl
theorem joined_any {cs l : List Cm} {M : GM} (h : joinedP 2 [] cs [] = .ok M) (hl : l.length ≤ 200) (hs : ∀ c, c ∈ l ↔ c ∈ cs) : ∃ M', joinedP 2 [] l [] = .ok M' ∧ Alike M M' ∧ Good M' := by
  obtain ⟨e1, e2, e3, e4, e5⟩ := joined_ok h
  have g0 : Good ([] : GM) := ⟨⟨by simp, by simp⟩, by simp, by intro x y h; simp [parsM, look] at h, by
    intro x h
    have : ∀ z, ¬ Reach (parsM []) [] z := fun z hz => by
      induction hz with
      | base _ h => cases h
      | step _ _ _ _ ih => exact ih
    exact this x h⟩
  have gM := joined_good g0 h
  obtain ⟨k1, k2, k3, k4⟩ := join_spec e2 g0.keys
  obtain ⟨M', f2, f3⟩ := join_any (M := M) l [] (fun h p hp => by cases hp) (fun c hc => k3 c ((hs c).1 hc))
  obtain ⟨j1, j2, j3, j4⟩ := join_spec f2 g0.keys
  have hA : Alike M M' := fun x => by
    cases e : look M' x with
    | some p => exact f3 x p e
    | none =>
      cases e' : look M x with
      | none => rfl
      | some p =>
        rcases k4 x p e' with q | q
        · cases q
        · have := j3 _ ((hs _).2 q)
          rw [e] at this; cases this
  have s1 := sizes_any (n := 0) e1 hl fun c hc => (hs c).1 hc
  obtain ⟨l1, _⟩ := lack_none e3
  have s3 : lackP M' l [] = none := by
    unfold lackP
    have : l.findSome? (fun c => c.2.findSome? (nowhere M' 10)) = none := by
      refine List.findSome?_eq_none_iff.2 fun c hc => List.findSome?_eq_none_iff.2 fun y hy => ?_
      have := l1 c ((hs c).1 hc) y hy
      rw [hA y] at this
      obtain ⟨z, hz⟩ := Option.isSome_iff_exists.1 this
      unfold nowhere; rw [hz]
    rw [this]; rfl
  have s4 : roundP [] M' l = none := by
    unfold roundP
    refine List.findSome?_eq_none_iff.2 fun c hc => ?_
    have hp : parsM M c.1 = c.2 := parsM_some (k3 c ((hs c).1 hc))
    have := gM.acyc c.1
    rw [hp, hA.pars] at this
    unfold roundE
    rw [if_neg (by simp [look]), if_neg this]
  have s5 : M'.length ≤ 1000 := by rw [← hA.len k1 j1]; exact e5
  have hj : joinedP 2 [] l [] = .ok M' := by
    unfold joinedP
    simp only [List.length_nil, s1, f2, s3, s4]
    rw [if_neg (by omega)]
  exact ⟨M', hj, hA, joined_good g0 hj⟩
theorem alike_keys {m m' : GM} (h : Alike m m') : keysS m = keysS m' :=
  ss_eq (sortR_ss _) (sortR_ss _) fun z => by
    show z ∈ keysS m ↔ z ∈ keysS m'
    rw [keysS_mem, keysS_mem, h z]
end Gv.Tryd
/- GraphOrders. -/
set_option linter.unusedVariables false
set_option linter.unusedSimpArgs false
set_option maxRecDepth 20000
set_option maxHeartbeats 8000000
namespace Gv.Tryd
open Go Gv Go.Proofs
abbrev gObj2 (st s : Nat) (m : GM) : List GObj := [.row st 1 [[.map 3 s]], .map s (kvG encL m)]
theorem gNew2 (a b : GObj) (ha : a.isClock = false) : GCalls Tryd.prog 7 [] [a, b] (fun g O' => ∃ st s, g = .ptr 2 st 0 0 ∧ O' = [a, b] ++ gObj2 st s []) := by
  have hc : ∀ Y, clockOf (a :: Y) = none := fun Y => by cases a <;> first | rfl | cases ha
  refine GCalls.frame gNewRaw [] trivial (by simp) trivial rfl (hc _) ?_
  rintro g O' ⟨st, s, rfl, rfl⟩
  exact ⟨_, [a, b] ++ gObj2 st s [], [(true, 0), (true, 1), (false, 1), (false, 0)], ⟨st, s, rfl, rfl⟩, GLe.ptr _ _ _ _ _, ⟨⟨by simp, _, rfl, .refl _⟩, ⟨by simp, _, rfl, .refl _⟩, ⟨_, rfl, OLe.row ⟨⟨GLe.map _ _ _, trivial⟩, trivial⟩⟩, ⟨_, rfl, .refl _⟩, trivial⟩, by simp, hc _⟩
theorem on23 {f : FuncId} {args : List GVal} {st s : Nat} {m : GM} {r : GVal} {t : GVal} (h : GCalls Tryd.prog f (.ptr 0 st 0 0 :: args) (gObj st s m) (fun g O' => g = r ∧ O' = gObj st s m)) (a b : GObj) (ha : a.isClock = false) (X : List GObj) :
    GCalls Tryd.prog f (.ptr 2 st 0 0 :: args) ([a, b] ++ gObj2 st s m ++ X) (fun g O' => g = r ∧ O' = [a, b] ++ gObj2 st s m ++ X) := by
  have hc : ∀ Y, clockOf (a :: Y) = none := fun Y => by cases a <;> first | rfl | cases ha
  have h2 : GCalls Tryd.prog f (.ptr 0 st 0 0 :: args) (gObj st s m) (fun g O' => ∃ x' y', O' = [x', y'] ∧ (g = r ∧ x' = .row st 1 [[.map 1 s]] ∧ y' = .map s (kvG encL m))) := h.mono (by rintro g O' ⟨rfl, rfl⟩; exact ⟨_, _, rfl, rfl, rfl, rfl⟩)
  refine (GCalls.on2 (R := fun g x' y' => g = r ∧ x' = .row st 1 [[.map 1 s]] ∧ y' = .map s (kvG encL m)) h2 (args' := .ptr 2 st 0 0 :: args) (O := [a, b] ++ gObj2 st s m ++ X) 2 3 (by omega) rfl rfl (OLe.row ⟨⟨GLe.map _ _ _, trivial⟩, trivial⟩) ⟨GLe.ptr _ _ _ _ _, GLes.refl _⟩ rfl rfl (by rintro g x' y' ⟨_, rfl, rfl⟩; exact ⟨rfl, rfl⟩) (hc _)).mono ?_
  rintro g O' ⟨x', y', ⟨rfl, rfl, rfl⟩, rfl⟩
  exact ⟨rfl, rfl⟩
theorem csG_nil0 : csG [] = [] := rfl
theorem z0 : Int.toNat 0 = 0 := rfl
theorem csG_takeN (l : List Cm) (k : Nat) : List.take k (csG l) = csG (l.take k) := by simp [csG, List.map_take]
theorem csG_dropN (l : List Cm) (k : Nat) : List.drop ((k : Int) + 1).toNat (List.take l.length (csG l)) = csG (l.drop (k + 1)) := by
  have e : ((k : Int) + 1).toNat = k + 1 := by omega
  rw [e, List.take_of_length_le (by rw [csG_len]; omega)]
  simp [csG, List.map_drop]
theorem solCom (c : Cm) : allSolid (comG c) = True := by
  unfold comG
  rw [solid33]
  simp [GVal.solid]
theorem perm_pick {acc left cs : List Cm} (h : (acc ++ left).Perm cs) {k : Nat} (hk : k < left.length) : (acc ++ [left.getD k default] ++ (left.take k ++ left.drop (k + 1))).Perm cs := by
  refine List.Perm.trans ?_ h
  rw [List.append_assoc]
  refine List.Perm.append_left acc ?_
  have e : left = left.take k ++ (left.getD k default :: left.drop (k + 1)) := by
    rw [List.getD_eq_getElem?_getD, List.getElem?_eq_getElem hk, Option.getD_some, ← List.drop_eq_getElem_cons hk, List.take_append_drop]
  conv => rhs; rw [e]
  show (left.getD k default :: (left.take k ++ left.drop (k + 1))).Perm _
  exact List.perm_middle.symm
theorem pick_len (left : List Cm) {k : Nat} (hk : k < left.length) : (left.take k ++ left.drop (k + 1)).length + 1 = left.length := by
  rw [List.length_append, List.length_take, List.length_drop]; omega
theorem specOrders (x : RR) (os : List Int) : GPure Tryd.prog 3 [.agg (rrG x), .slice (ints os) .none] (.bool true) := by
  refine GCalls.toPure ?_
  refine h3.calls mixS (by simp) ?_
  simp only [gstart, s3, List.cons_append, List.nil_append, List.length_cons, List.length_nil, Nat.reduceAdd, Nat.reduceSub, List.replicate_succ, List.replicate_zero]
  simp +contextual -implicitDefEqProofs (maxSteps := 2000000) (disch := omega) only [drawC, drawK, keepT, ↓lenV, binV, ↓unV, optV, ↓loadV, ↓storeV, ↓fieldAddrV, ↓indexAddrV, ↓allocV, ↓boxV, ↓buildSliceV, ↓sliceV, ↓appendV, ↓srcV, bound, cutTag, hiTag, fillE, GVal.cells, grp, GVal.ofConst, ↓resV, resG, List.map, List.headD, List.take, List.drop, ↓reduceIte, Nat.reduceEqDiff, Nat.reduceAdd, Nat.reduceSub, Nat.reduceLeDiff, reduceCtorEq, implies_true, ne_eq, ↓asrcV, aggV, Tag.cap, List.replicate, allSolid, GVal.solid, Nat.reduceBEq, Nat.reduceMul, Nat.reduceLT, List.length_map, List.length_range, splice, vcA, ↓vcB, vcC, fbFu, e3]
  refine gNew.mono ?_
  rintro g O' ⟨sa, s1, rfl, rfl⟩
  simp +contextual -implicitDefEqProofs (maxSteps := 2000000) (disch := omega) only [drawC, drawK, keepT, ↓lenV, binV, ↓unV, optV, ↓loadV, ↓storeV, ↓fieldAddrV, ↓indexAddrV, ↓allocV, ↓boxV, ↓buildSliceV, ↓sliceV, ↓appendV, ↓srcV, bound, cutTag, hiTag, fillE, GVal.cells, grp, GVal.ofConst, ↓resV, resG, List.map, List.headD, List.take, List.drop, ↓reduceIte, Nat.reduceEqDiff, Nat.reduceAdd, Nat.reduceSub, Nat.reduceLeDiff, reduceCtorEq, implies_true, ne_eq, ↓asrcV, aggV, Tag.cap, List.replicate, allSolid, GVal.solid, Nat.reduceBEq, Nat.reduceMul, Nat.reduceLT, List.length_map, List.length_range, splice, vcA, ↓vcB, vcC, fbFu, e3]
  refine (gNew2 _ _ rfl).mono ?_
  rintro g O' ⟨sb, s2, rfl, rfl⟩
  simp +contextual -implicitDefEqProofs (maxSteps := 2000000) (disch := omega) only [drawC, drawK, keepT, ↓lenV, binV, ↓unV, optV, ↓loadV, ↓storeV, ↓fieldAddrV, ↓indexAddrV, ↓allocV, ↓boxV, ↓buildSliceV, ↓sliceV, ↓appendV, ↓srcV, bound, cutTag, hiTag, fillE, GVal.cells, grp, GVal.ofConst, ↓resV, resG, List.map, List.headD, List.take, List.drop, ↓reduceIte, Nat.reduceEqDiff, Nat.reduceAdd, Nat.reduceSub, Nat.reduceLeDiff, reduceCtorEq, implies_true, ne_eq, ↓asrcV, aggV, Tag.cap, List.replicate, allSolid, GVal.solid, Nat.reduceBEq, Nat.reduceMul, Nat.reduceLT, List.length_map, List.length_range, splice, vcA, ↓vcB, vcC, fbFu, e3]
  refine gKnown11.then ?_ (by rfl)
  simp +contextual -implicitDefEqProofs (maxSteps := 2000000) (disch := omega) only [drawC, drawK, keepT, ↓lenV, binV, ↓unV, optV, ↓loadV, ↓storeV, ↓fieldAddrV, ↓indexAddrV, ↓allocV, ↓boxV, ↓buildSliceV, ↓sliceV, ↓appendV, ↓srcV, bound, cutTag, hiTag, fillE, GVal.cells, grp, GVal.ofConst, ↓resV, resG, List.map, List.headD, List.take, List.drop, ↓reduceIte, Nat.reduceEqDiff, Nat.reduceAdd, Nat.reduceSub, Nat.reduceLeDiff, reduceCtorEq, implies_true, ne_eq, ↓asrcV, aggV, Tag.cap, List.replicate, allSolid, GVal.solid, Nat.reduceBEq, Nat.reduceMul, Nat.reduceLT, List.length_map, List.length_range, splice, vcA, ↓vcB, vcC, fbFu, e3]
  refine (gRequestO x (gObj sa s1 [] ++ gObj2 sb s2 []) rfl).mono ?_
  rintro g O' ⟨cs, hs, gr, hr, rfl, rfl⟩
  have hcl := hr.len
  have cGa := fun (X : List GObj) => GCalls.on2 (R := fun g x' y' => g = errV (addedE [] cs) ∧ ∃ s', x' = .row sa 1 [[.map 1 s']] ∧ y' = .map s' (kvG encL (addedM [] cs))) (gAdd [] fourG cs sa s1 (by omega) (fun c hc => by have := hr.par c hc; omega)) (O := gObj sa s1 [] ++ X) 0 1 (by omega) rfl rfl (.refl _) (GLes.refl _) rfl rfl (by rintro g x' y' ⟨_, s', rfl, rfl⟩; exact ⟨rfl, rfl⟩) rfl
  cases e1 : joinedP 2 [] cs [] with
  | error e =>
    have ea : addedE [] cs = some e := by unfold addedE; rw [e1]
    have em : addedM [] cs = [] := by unfold addedM; rw [e1]
    rw [ea, em] at cGa
    obtain ⟨ty, v, ev⟩ := errV_some e
    simp +contextual -implicitDefEqProofs (maxSteps := 2000000) (disch := omega) only [drawC, drawK, keepT, ↓lenV, binV, ↓unV, optV, ↓loadV, ↓storeV, ↓fieldAddrV, ↓indexAddrV, ↓allocV, ↓boxV, ↓buildSliceV, ↓sliceV, ↓appendV, ↓srcV, bound, cutTag, hiTag, fillE, GVal.cells, grp, GVal.ofConst, ↓resV, resG, List.map, List.headD, List.take, List.drop, ↓reduceIte, Nat.reduceEqDiff, Nat.reduceAdd, Nat.reduceSub, Nat.reduceLeDiff, reduceCtorEq, implies_true, ne_eq, ↓asrcV, aggV, Tag.cap, List.replicate, allSolid, GVal.solid, Nat.reduceBEq, Nat.reduceMul, Nat.reduceLT, List.length_map, List.length_range, splice, vcA, ↓vcB, vcC, fbFu, e3]
    intro sx
    refine (cGa (gObj2 sb s2 [] ++ [.row sx 3 [reqG cs hs .none gr]])).mono ?_
    rintro g O' ⟨x', y', ⟨rfl, s', rfl, rfl⟩, rfl⟩
    simp +contextual -implicitDefEqProofs (maxSteps := 2000000) (disch := omega) only [drawC, drawK, keepT, ↓lenV, binV, ↓unV, optV, ↓loadV, ↓storeV, ↓fieldAddrV, ↓indexAddrV, ↓allocV, ↓boxV, ↓buildSliceV, ↓sliceV, ↓appendV, ↓srcV, bound, cutTag, hiTag, fillE, GVal.cells, grp, GVal.ofConst, ↓resV, resG, List.map, List.headD, List.take, List.drop, ↓reduceIte, Nat.reduceEqDiff, Nat.reduceAdd, Nat.reduceSub, Nat.reduceLeDiff, reduceCtorEq, implies_true, ne_eq, ↓asrcV, aggV, Tag.cap, List.replicate, allSolid, GVal.solid, Nat.reduceBEq, Nat.reduceMul, Nat.reduceLT, List.length_map, List.length_range, splice, vcA, ↓vcB, vcC, fbFu, e3, ev, GObj.place]
    refine ⟨und34, ?_⟩
    refine (GCalls.keep2 (gCount [] (by decide) sa s') rfl (gObj2 sb s2 [] ++ [.row sx 3 [reqG cs hs .none gr]])).mono ?_
    rintro g O' ⟨rfl, rfl⟩
    simp +contextual -implicitDefEqProofs (maxSteps := 2000000) (disch := omega) only [drawC, drawK, keepT, ↓lenV, binV, ↓unV, optV, ↓loadV, ↓storeV, ↓fieldAddrV, ↓indexAddrV, ↓allocV, ↓boxV, ↓buildSliceV, ↓sliceV, ↓appendV, ↓srcV, bound, cutTag, hiTag, fillE, GVal.cells, grp, GVal.ofConst, ↓resV, resG, List.map, List.headD, List.take, List.drop, ↓reduceIte, Nat.reduceEqDiff, Nat.reduceAdd, Nat.reduceSub, Nat.reduceLeDiff, reduceCtorEq, implies_true, ne_eq, ↓asrcV, aggV, Tag.cap, List.replicate, allSolid, GVal.solid, Nat.reduceBEq, Nat.reduceMul, Nat.reduceLT, List.length_map, List.length_range, splice, vcA, ↓vcB, vcC, fbFu, e3]
    exact ⟨1, .bool true, rfl, by rw [leA_bool]⟩
  | ok M =>
    have ea : addedE [] cs = none := by unfold addedE; rw [e1]
    have em : addedM [] cs = M := by unfold addedM; rw [e1]
    rw [ea, em] at cGa
    simp +contextual -implicitDefEqProofs (maxSteps := 2000000) (disch := omega) only [drawC, drawK, keepT, ↓lenV, binV, ↓unV, optV, ↓loadV, ↓storeV, ↓fieldAddrV, ↓indexAddrV, ↓allocV, ↓boxV, ↓buildSliceV, ↓sliceV, ↓appendV, ↓srcV, bound, cutTag, hiTag, fillE, GVal.cells, grp, GVal.ofConst, ↓resV, resG, List.map, List.headD, List.take, List.drop, ↓reduceIte, Nat.reduceEqDiff, Nat.reduceAdd, Nat.reduceSub, Nat.reduceLeDiff, reduceCtorEq, implies_true, ne_eq, ↓asrcV, aggV, Tag.cap, List.replicate, allSolid, GVal.solid, Nat.reduceBEq, Nat.reduceMul, Nat.reduceLT, List.length_map, List.length_range, splice, vcA, ↓vcB, vcC, fbFu, e3]
    intro sx
    refine (cGa (gObj2 sb s2 [] ++ [.row sx 3 [reqG cs hs .none gr]])).mono ?_
    rintro g O' ⟨x', y', ⟨rfl, s', rfl, rfl⟩, rfl⟩
    simp +contextual -implicitDefEqProofs (maxSteps := 2000000) (disch := omega) only [drawC, drawK, keepT, ↓lenV, binV, ↓unV, optV, ↓loadV, ↓storeV, ↓fieldAddrV, ↓indexAddrV, ↓allocV, ↓boxV, ↓buildSliceV, ↓sliceV, ↓appendV, ↓srcV, bound, cutTag, hiTag, fillE, GVal.cells, grp, GVal.ofConst, ↓resV, resG, List.map, List.headD, List.take, List.drop, ↓reduceIte, Nat.reduceEqDiff, Nat.reduceAdd, Nat.reduceSub, Nat.reduceLeDiff, reduceCtorEq, implies_true, ne_eq, ↓asrcV, aggV, Tag.cap, List.replicate, allSolid, GVal.solid, Nat.reduceBEq, Nat.reduceMul, Nat.reduceLT, List.length_map, List.length_range, splice, vcA, ↓vcB, vcC, fbFu, e3, errV, GObj.place]
    refine ⟨und34, ?_⟩
    refine ⟨fun y hy => of_eq_true (all_csG cs) y hy, by rw [csG_len]; omega, by rw [csG_len]; omega, fun t1 => ?_⟩
    refine vcSLoop_by (ι := { p : (List Cm × List Cm) × (Nat × Nat) // (p.1.1 ++ p.1.2).Perm cs ∧ p.2.2 + p.1.2.length = cs.length }) (fun p => ⟨[.any, .slice (ints os) .none, .any, .any, .any, .ptr 0 sa 0 0, .ptr 2 sb 0 0, .any, .slice (csG p.1.1.2) .none, .slice (csG p.1.1.1) (.tok 5 p.1.2.1), .int .i64 (p.1.2.2 : Nat)] ++ List.replicate 120 .any, gObj sa s' M ++ gObj2 sb s2 [] ++ [.row sx 3 [reqG cs hs .none gr], .tok p.1.2.1 33]⟩) (fun p => p.1.1.2.length) ?_ ?_
    · refine Into.slot 8 (.slice (csG cs) (.tok 5 t1)) (.slice (csG cs) .none) rfl (fun E v h => GLe.none E v h) ?_
      refine Into.drop (O := gObj sa s' M ++ gObj2 sb s2 [] ++ [.row sx 3 [reqG cs hs .none gr]]) (X := [.tok t1 33]) rfl ?_
      refine Into.tok 9 33 [] rfl rfl ?_
      intro t2
      exact Into.first ⟨(([], cs), (t2, 0)), by simp, by simp⟩ ⟨[], by simp; rfl⟩ (by simp [WL, leG_self, leG_any, leG_int]; rfl)
    · rintro ⟨⟨⟨acc, left⟩, ⟨tk, i⟩⟩, hp, hi⟩
      change (acc ++ left).Perm cs at hp
      change i + left.length = cs.length at hi
      have hpl := hp.length_eq
      rw [List.length_append] at hpl
      by_cases hl : 0 < left.length
      · have dl : ((0 : Int) < (left.length : Int)) = True := eq_true (by omega)
        by_cases ho : i < os.length
        · have do_ : ((i : Int) < (os.length : Int)) = True := eq_true (by omega)
          have eO := ints_at os i ho
          generalize os.getD i 0 = z at *
          have b1 := Int.emod_nonneg z (by omega : (left.length : Int) ≠ 0)
          have b2 := Int.emod_lt_of_pos z (by omega : (0 : Int) < (left.length : Int))
          have cP := sPick z (left.length : Int) (by omega) (by omega)
          obtain ⟨k, ek⟩ := Int.eq_ofNat_of_zero_le b1
          rw [ek] at b2 cP
          have hk : k < left.length := by omega
          have eL := csG_at left k hk
          have eT := csG_takeN left k
          have eD := csG_dropN left k
          have hq := perm_pick hp hk
          have hlen := pick_len left hk
          have lt1 : (left.take k).length ≤ 72 := by rw [List.length_take]; omega
          have lt2 : (left.drop (k + 1)).length ≤ 72 := by rw [List.length_drop]; omega
          generalize left.getD k default = c at *
          have l33 := comG_len c
          have t33 : List.take 33 (comG c) = comG c := List.take_of_length_le (by rw [l33]; omega)
          have sol := solCom c
          simp +contextual -implicitDefEqProofs (maxSteps := 2000000) (disch := omega) only [drawC, drawK, keepT, ↓lenV, binV, ↓unV, optV, ↓loadV, ↓storeV, ↓fieldAddrV, ↓indexAddrV, ↓allocV, ↓boxV, ↓buildSliceV, ↓sliceV, ↓appendV, ↓srcV, bound, cutTag, hiTag, fillE, GVal.cells, grp, GVal.ofConst, ↓resV, resG, List.map, List.headD, List.take, List.drop, ↓reduceIte, Nat.reduceEqDiff, Nat.reduceAdd, Nat.reduceSub, Nat.reduceLeDiff, reduceCtorEq, implies_true, ne_eq, ↓asrcV, aggV, Tag.cap, List.replicate, allSolid, GVal.solid, Nat.reduceBEq, Nat.reduceMul, Nat.reduceLT, List.length_map, List.length_range, splice, vcA, ↓vcB, vcC, fbFu, e3, dl, csG_len, ints_len, do_, eO]
          refine ⟨by omega, ?_⟩
          refine cP.then ?_ (by rfl)
          simp +contextual -implicitDefEqProofs (maxSteps := 2000000) (disch := omega) only [drawC, drawK, keepT, ↓lenV, binV, ↓unV, optV, ↓loadV, ↓storeV, ↓fieldAddrV, ↓indexAddrV, ↓allocV, ↓boxV, ↓buildSliceV, ↓sliceV, ↓appendV, ↓srcV, bound, cutTag, hiTag, fillE, GVal.cells, grp, GVal.ofConst, ↓resV, resG, List.map, List.headD, List.take, List.drop, ↓reduceIte, Nat.reduceEqDiff, Nat.reduceAdd, Nat.reduceSub, Nat.reduceLeDiff, reduceCtorEq, implies_true, ne_eq, ↓asrcV, aggV, Tag.cap, List.replicate, allSolid, GVal.solid, Nat.reduceBEq, Nat.reduceMul, Nat.reduceLT, List.length_map, List.length_range, splice, vcA, ↓vcB, vcC, fbFu, e3, dl, csG_len, ints_len, do_, eO, eL, eT, eD, l33, t33, sol, all_csG, z0, List.drop_zero]
          refine ⟨by omega, by omega, by omega, by omega, fun t3 => ⟨by omega, by omega, by omega, by omega, by omega, by omega, by omega, by omega, fun t4 => ⟨⟨_, rfl⟩, by omega, by omega, fun t5 => ?_⟩⟩⟩
          exact Into.at ⟨((acc ++ [c], left.take k ++ left.drop (k + 1)), (t3, i + 1)), hq, by show i + 1 + (left.take k ++ left.drop (k + 1)).length = cs.length; omega⟩ (by show (left.take k ++ left.drop (k + 1)).length < left.length; omega) ⟨_, rfl⟩ (by simp [WL, leG_self, leG_any, leG_int, leG_none, csG_app, csG_one])
        · have do_ : ((i : Int) < (os.length : Int)) = False := eq_false (by omega)
          obtain ⟨k, ek⟩ : ∃ k : Nat, k = 0 := ⟨0, rfl⟩
          have hk : k < left.length := by omega
          have ez : (0 : Int) = ((k : Nat) : Int) := by rw [ek]; rfl
          have eL := csG_at left k hk
          have eT := csG_takeN left k
          have eD := csG_dropN left k
          have hq := perm_pick hp hk
          have hlen := pick_len left hk
          have lt1 : (left.take k).length ≤ 72 := by rw [List.length_take]; omega
          have lt2 : (left.drop (k + 1)).length ≤ 72 := by rw [List.length_drop]; omega
          generalize left.getD k default = c at *
          have l33 := comG_len c
          have t33 : List.take 33 (comG c) = comG c := List.take_of_length_le (by rw [l33]; omega)
          have sol := solCom c
          subst ek
          have eD0 : List.drop ((0 : Int) + 1).toNat (List.take left.length (csG left)) = csG (left.drop 1) := eD
          have lt3 : (left.drop 1).length ≤ 72 := lt2
          simp +contextual -implicitDefEqProofs (maxSteps := 2000000) (disch := omega) only [drawC, drawK, keepT, ↓lenV, binV, ↓unV, optV, ↓loadV, ↓storeV, ↓fieldAddrV, ↓indexAddrV, ↓allocV, ↓boxV, ↓buildSliceV, ↓sliceV, ↓appendV, ↓srcV, bound, cutTag, hiTag, fillE, GVal.cells, grp, GVal.ofConst, ↓resV, resG, List.map, List.headD, List.take, List.drop, ↓reduceIte, Nat.reduceEqDiff, Nat.reduceAdd, Nat.reduceSub, Nat.reduceLeDiff, reduceCtorEq, implies_true, ne_eq, ↓asrcV, aggV, Tag.cap, List.replicate, allSolid, GVal.solid, Nat.reduceBEq, Nat.reduceMul, Nat.reduceLT, List.length_map, List.length_range, splice, vcA, ↓vcB, vcC, fbFu, e3, dl, csG_len, ints_len, do_, eL, eT, eD0, l33, t33, sol, all_csG, z0, List.drop_zero]
          refine ⟨by omega, by omega, by omega, fun t3 => ⟨by omega, by omega, by omega, by omega, by omega, by omega, fun t4 => ⟨⟨_, rfl⟩, ?_⟩⟩⟩
          refine ⟨by omega, by omega, fun t5 => ?_⟩
          exact Into.at ⟨((acc ++ [c], left.drop 1), (t3, i + 1)), hq, by show i + 1 + (left.drop 1).length = cs.length; rw [List.length_drop]; omega⟩ (by show (left.drop 1).length < left.length; rw [List.length_drop]; omega) ⟨_, rfl⟩ (by simp [WL, leG_self, leG_any, leG_int, leG_none, csG_app, csG_one, csG_nil0])
      · have dl : ((0 : Int) < (left.length : Int)) = False := eq_false (by omega)
        have hz : left = [] := List.eq_nil_of_length_eq_zero (by omega)
        have hp' : acc.Perm cs := by rw [hz, List.append_nil] at hp; exact hp
        have hal := hp'.length_eq
        have eh : ((acc.length : Int)).tdiv 2 = ((acc.length / 2 : Nat) : Int) := by
          rw [Int.tdiv_eq_ediv_of_nonneg (by omega)]; omega
        have eA := csG_takeN acc (acc.length / 2)
        have eApp := (csG_app acc (acc.take (acc.length / 2))).symm
        have hLl : (acc ++ acc.take (acc.length / 2)).length ≤ 200 := by rw [List.length_append, List.length_take]; omega
        have hLm : ∀ c, c ∈ acc ++ acc.take (acc.length / 2) ↔ c ∈ cs := fun c => by
          rw [List.mem_append, ← hp'.mem_iff]
          exact ⟨fun h => h.elim id List.mem_of_mem_take, .inl⟩
        have htl : (acc.take (acc.length / 2)).length ≤ 72 := by rw [List.length_take]; omega
        obtain ⟨M', f1, hA, gM'⟩ := joined_any e1 hLl hLm
        generalize hLe : acc ++ acc.take (acc.length / 2) = L' at *
        have d200 : ((200 : Int) < (L'.length : Int)) = False := eq_false (by omega)
        have gM := joined_good good_nil0 e1
        have hMl := gM.ok.len
        have hMl' := gM'.ok.len
        have hLp : ∀ c ∈ L', c.2.length ≤ 1000000 := fun c hc => by have := hr.par c ((hLm c).1 hc); omega
        have ea' : addedE [] L' = none := by unfold addedE; rw [f1]
        have em' : addedM [] L' = M' := by unfold addedM; rw [f1]
        have cGb := fun (t : Nat) => GCalls.on2 (R := fun g x' y' => g = errV (addedE [] L') ∧ ∃ s', x' = .row sb 1 [[.map 1 s']] ∧ y' = .map s' (kvG encL (addedM [] L'))) (gAdd [] fourG L' sb s2 (by omega) hLp) (args' := [.ptr 2 sb 0 0, .slice (csG L') (.tok 5 t)]) (O := gObj sa s' M ++ gObj2 sb s2 [] ++ [.row sx 3 [reqG cs hs .none gr], .tok t 33]) (xi := .row sb 1 [[.map 3 s2]]) 2 3 (by omega) rfl rfl (OLe.row ⟨⟨GLe.map _ _ _, trivial⟩, trivial⟩) ⟨GLe.ptr _ _ _ _ _, GLe.none, trivial⟩ rfl rfl (by rintro g x' y' ⟨_, s', rfl, rfl⟩; exact ⟨rfl, rfl⟩) rfl
        simp only [ea', em'] at cGb
        have cHa := fun (X : List GObj) => GCalls.keep2 (L.gHashes11 M (by omega) sa s') rfl X
        have cHb := fun (s3 : Nat) (X : List GObj) => on23 (a := .row sa 1 [[.map 1 s']]) (b := .map s' (kvG encL M)) (L.gHashes11 M' (by omega) sb s3) (ha := rfl) (X := X) (t := .any)
        have hkk := alike_keys hA
        have hkl := keysS_len gM.keys
        have cQ := hSame (keysS M) (keysS M') .none .none (by omega)
        rw [decide_eq_true hkk] at cQ
        simp +contextual -implicitDefEqProofs (maxSteps := 2000000) (disch := omega) only [drawC, drawK, keepT, ↓lenV, binV, ↓unV, optV, ↓loadV, ↓storeV, ↓fieldAddrV, ↓indexAddrV, ↓allocV, ↓boxV, ↓buildSliceV, ↓sliceV, ↓appendV, ↓srcV, bound, cutTag, hiTag, fillE, GVal.cells, grp, GVal.ofConst, ↓resV, resG, List.map, List.headD, List.take, List.drop, ↓reduceIte, Nat.reduceEqDiff, Nat.reduceAdd, Nat.reduceSub, Nat.reduceLeDiff, reduceCtorEq, implies_true, ne_eq, ↓asrcV, aggV, Tag.cap, List.replicate, allSolid, GVal.solid, Nat.reduceBEq, Nat.reduceMul, Nat.reduceLT, List.length_map, List.length_range, splice, vcA, ↓vcB, vcC, fbFu, e3, dl, csG_len, eh, z0, List.drop_zero, eA, all_csG, eApp, d200]
        refine ⟨by omega, by omega, by omega, by omega, by omega, by omega, fun t3 => ?_⟩
        refine (cGb t3).mono ?_
        rintro g O' ⟨x', y', ⟨rfl, s3, rfl, rfl⟩, rfl⟩
        simp +contextual -implicitDefEqProofs (maxSteps := 2000000) (disch := omega) only [drawC, drawK, keepT, ↓lenV, binV, ↓unV, optV, ↓loadV, ↓storeV, ↓fieldAddrV, ↓indexAddrV, ↓allocV, ↓boxV, ↓buildSliceV, ↓sliceV, ↓appendV, ↓srcV, bound, cutTag, hiTag, fillE, GVal.cells, grp, GVal.ofConst, ↓resV, resG, List.map, List.headD, List.take, List.drop, ↓reduceIte, Nat.reduceEqDiff, Nat.reduceAdd, Nat.reduceSub, Nat.reduceLeDiff, reduceCtorEq, implies_true, ne_eq, ↓asrcV, aggV, Tag.cap, List.replicate, allSolid, GVal.solid, Nat.reduceBEq, Nat.reduceMul, Nat.reduceLT, List.length_map, List.length_range, splice, vcA, ↓vcB, vcC, fbFu, e3, errV, GObj.place]
        refine ⟨und34, ?_⟩
        refine (cHa (gObj2 sb s3 M' ++ [.row sx 3 [reqG cs hs .none gr], .tok t3 33])).mono ?_
        rintro g O' ⟨rfl, rfl⟩
        simp +contextual -implicitDefEqProofs (maxSteps := 2000000) (disch := omega) only [drawC, drawK, keepT, ↓lenV, binV, ↓unV, optV, ↓loadV, ↓storeV, ↓fieldAddrV, ↓indexAddrV, ↓allocV, ↓boxV, ↓buildSliceV, ↓sliceV, ↓appendV, ↓srcV, bound, cutTag, hiTag, fillE, GVal.cells, grp, GVal.ofConst, ↓resV, resG, List.map, List.headD, List.take, List.drop, ↓reduceIte, Nat.reduceEqDiff, Nat.reduceAdd, Nat.reduceSub, Nat.reduceLeDiff, reduceCtorEq, implies_true, ne_eq, ↓asrcV, aggV, Tag.cap, List.replicate, allSolid, GVal.solid, Nat.reduceBEq, Nat.reduceMul, Nat.reduceLT, List.length_map, List.length_range, splice, vcA, ↓vcB, vcC, fbFu, e3]
        refine (cHb s3 [.row sx 3 [reqG cs hs .none gr], .tok t3 33]).mono ?_
        rintro g O' ⟨rfl, rfl⟩
        simp +contextual -implicitDefEqProofs (maxSteps := 2000000) (disch := omega) only [drawC, drawK, keepT, ↓lenV, binV, ↓unV, optV, ↓loadV, ↓storeV, ↓fieldAddrV, ↓indexAddrV, ↓allocV, ↓boxV, ↓buildSliceV, ↓sliceV, ↓appendV, ↓srcV, bound, cutTag, hiTag, fillE, GVal.cells, grp, GVal.ofConst, ↓resV, resG, List.map, List.headD, List.take, List.drop, ↓reduceIte, Nat.reduceEqDiff, Nat.reduceAdd, Nat.reduceSub, Nat.reduceLeDiff, reduceCtorEq, implies_true, ne_eq, ↓asrcV, aggV, Tag.cap, List.replicate, allSolid, GVal.solid, Nat.reduceBEq, Nat.reduceMul, Nat.reduceLT, List.length_map, List.length_range, splice, vcA, ↓vcB, vcC, fbFu, e3]
        refine cQ.then ?_ (by rfl)
        simp +contextual -implicitDefEqProofs (maxSteps := 2000000) (disch := omega) only [drawC, drawK, keepT, ↓lenV, binV, ↓unV, optV, ↓loadV, ↓storeV, ↓fieldAddrV, ↓indexAddrV, ↓allocV, ↓boxV, ↓buildSliceV, ↓sliceV, ↓appendV, ↓srcV, bound, cutTag, hiTag, fillE, GVal.cells, grp, GVal.ofConst, ↓resV, resG, List.map, List.headD, List.take, List.drop, ↓reduceIte, Nat.reduceEqDiff, Nat.reduceAdd, Nat.reduceSub, Nat.reduceLeDiff, reduceCtorEq, implies_true, ne_eq, ↓asrcV, aggV, Tag.cap, List.replicate, allSolid, GVal.solid, Nat.reduceBEq, Nat.reduceMul, Nat.reduceLT, List.length_map, List.length_range, splice, vcA, ↓vcB, vcC, fbFu, e3]
        refine (cHa (gObj2 sb s3 M' ++ [.row sx 3 [reqG cs hs .none gr], .tok t3 33])).mono ?_
        rintro g O' ⟨rfl, rfl⟩
        simp +contextual -implicitDefEqProofs (maxSteps := 2000000) (disch := omega) only [drawC, drawK, keepT, ↓lenV, binV, ↓unV, optV, ↓loadV, ↓storeV, ↓fieldAddrV, ↓indexAddrV, ↓allocV, ↓boxV, ↓buildSliceV, ↓sliceV, ↓appendV, ↓srcV, bound, cutTag, hiTag, fillE, GVal.cells, grp, GVal.ofConst, ↓resV, resG, List.map, List.headD, List.take, List.drop, ↓reduceIte, Nat.reduceEqDiff, Nat.reduceAdd, Nat.reduceSub, Nat.reduceLeDiff, reduceCtorEq, implies_true, ne_eq, ↓asrcV, aggV, Tag.cap, List.replicate, allSolid, GVal.solid, Nat.reduceBEq, Nat.reduceMul, Nat.reduceLT, List.length_map, List.length_range, splice, vcA, ↓vcB, vcC, fbFu, e3]
        refine vcSLoop_by (ι := { k : Nat // k ≤ (keysS M).length }) (fun k => ⟨[.any, .any, .any, .any, .any, .ptr 0 sa 0 0, .ptr 2 sb 0 0, .any, .any, .any, .any, .any, .slice (hsG (keysS M)) .none, .int .i64 (k.1 : Nat)] ++ List.replicate 117 .any, gObj sa s' M ++ gObj2 sb s3 M' ++ [.row sx 3 [reqG cs hs .none gr], .tok t3 33]⟩) (fun k => (keysS M).length - k.1) ?_ ?_
        · exact Into.first ⟨0, Nat.zero_le _⟩ ⟨[], by simp⟩ (by simp [WL, leG_self, leG_any, leG_int, keysS])
        · rintro ⟨k, hk⟩
          change k ≤ (keysS M).length at hk
          by_cases hk2 : k < (keysS M).length
          · have dk : ((k : Int) < ((keysS M).length : Int)) = True := eq_true (by omega)
            have eK := hsG_at (keysS M) k hk2
            generalize (keysS M).getD k h0 = y at *
            have hpl1 := gM.gm.pars y
            have cPa := fun (X : List GObj) => GCalls.keep2 (gParents M y sa s' (by omega)) rfl X
            have cPb := fun (X : List GObj) => on23 (a := .row sa 1 [[.map 1 s']]) (b := .map s' (kvG encL M)) (gParents M' y sb s3 (by rw [← hA.pars]; omega)) (ha := rfl) (X := X) (t := .any)
            have cS := hSame (parsM M y) (parsM M' y) .none .none (by omega)
            rw [decide_eq_true (by rw [hA.pars])] at cS
            simp +contextual -implicitDefEqProofs (maxSteps := 2000000) (disch := omega) only [drawC, drawK, keepT, ↓lenV, binV, ↓unV, optV, ↓loadV, ↓storeV, ↓fieldAddrV, ↓indexAddrV, ↓allocV, ↓boxV, ↓buildSliceV, ↓sliceV, ↓appendV, ↓srcV, bound, cutTag, hiTag, fillE, GVal.cells, grp, GVal.ofConst, ↓resV, resG, List.map, List.headD, List.take, List.drop, ↓reduceIte, Nat.reduceEqDiff, Nat.reduceAdd, Nat.reduceSub, Nat.reduceLeDiff, reduceCtorEq, implies_true, ne_eq, ↓asrcV, aggV, Tag.cap, List.replicate, allSolid, GVal.solid, Nat.reduceBEq, Nat.reduceMul, Nat.reduceLT, List.length_map, List.length_range, splice, vcA, ↓vcB, vcC, fbFu, e3, dk, hsG_len, eK, len32, take32, solidH, all_hsG]
            refine ⟨by omega, ?_⟩
            refine (cPa (gObj2 sb s3 M' ++ [.row sx 3 [reqG cs hs .none gr], .tok t3 33])).mono ?_
            rintro g O' ⟨rfl, rfl⟩
            simp +contextual -implicitDefEqProofs (maxSteps := 2000000) (disch := omega) only [drawC, drawK, keepT, ↓lenV, binV, ↓unV, optV, ↓loadV, ↓storeV, ↓fieldAddrV, ↓indexAddrV, ↓allocV, ↓boxV, ↓buildSliceV, ↓sliceV, ↓appendV, ↓srcV, bound, cutTag, hiTag, fillE, GVal.cells, grp, GVal.ofConst, ↓resV, resG, List.map, List.headD, List.take, List.drop, ↓reduceIte, Nat.reduceEqDiff, Nat.reduceAdd, Nat.reduceSub, Nat.reduceLeDiff, reduceCtorEq, implies_true, ne_eq, ↓asrcV, aggV, Tag.cap, List.replicate, allSolid, GVal.solid, Nat.reduceBEq, Nat.reduceMul, Nat.reduceLT, List.length_map, List.length_range, splice, vcA, ↓vcB, vcC, fbFu, e3, dk, hsG_len, eK, len32, take32, solidH, all_hsG]
            refine ⟨by omega, ?_⟩
            refine (cPb [.row sx 3 [reqG cs hs .none gr], .tok t3 33]).mono ?_
            rintro g O' ⟨rfl, rfl⟩
            simp +contextual -implicitDefEqProofs (maxSteps := 2000000) (disch := omega) only [drawC, drawK, keepT, ↓lenV, binV, ↓unV, optV, ↓loadV, ↓storeV, ↓fieldAddrV, ↓indexAddrV, ↓allocV, ↓boxV, ↓buildSliceV, ↓sliceV, ↓appendV, ↓srcV, bound, cutTag, hiTag, fillE, GVal.cells, grp, GVal.ofConst, ↓resV, resG, List.map, List.headD, List.take, List.drop, ↓reduceIte, Nat.reduceEqDiff, Nat.reduceAdd, Nat.reduceSub, Nat.reduceLeDiff, reduceCtorEq, implies_true, ne_eq, ↓asrcV, aggV, Tag.cap, List.replicate, allSolid, GVal.solid, Nat.reduceBEq, Nat.reduceMul, Nat.reduceLT, List.length_map, List.length_range, splice, vcA, ↓vcB, vcC, fbFu, e3]
            refine cS.then ?_ (by rfl)
            simp +contextual -implicitDefEqProofs (maxSteps := 2000000) (disch := omega) only [drawC, drawK, keepT, ↓lenV, binV, ↓unV, optV, ↓loadV, ↓storeV, ↓fieldAddrV, ↓indexAddrV, ↓allocV, ↓boxV, ↓buildSliceV, ↓sliceV, ↓appendV, ↓srcV, bound, cutTag, hiTag, fillE, GVal.cells, grp, GVal.ofConst, ↓resV, resG, List.map, List.headD, List.take, List.drop, ↓reduceIte, Nat.reduceEqDiff, Nat.reduceAdd, Nat.reduceSub, Nat.reduceLeDiff, reduceCtorEq, implies_true, ne_eq, ↓asrcV, aggV, Tag.cap, List.replicate, allSolid, GVal.solid, Nat.reduceBEq, Nat.reduceMul, Nat.reduceLT, List.length_map, List.length_range, splice, vcA, ↓vcB, vcC, fbFu, e3]
            exact Into.at ⟨k + 1, by omega⟩ (by show (keysS M).length - (k + 1) < (keysS M).length - k; omega) ⟨[], by simp⟩ (by simp [WL, leG_self, leG_any, leG_int])
          · have dk : ((k : Int) < ((keysS M).length : Int)) = False := eq_false (by omega)
            simp +contextual -implicitDefEqProofs (maxSteps := 2000000) (disch := omega) only [drawC, drawK, keepT, ↓lenV, binV, ↓unV, optV, ↓loadV, ↓storeV, ↓fieldAddrV, ↓indexAddrV, ↓allocV, ↓boxV, ↓buildSliceV, ↓sliceV, ↓appendV, ↓srcV, bound, cutTag, hiTag, fillE, GVal.cells, grp, GVal.ofConst, ↓resV, resG, List.map, List.headD, List.take, List.drop, ↓reduceIte, Nat.reduceEqDiff, Nat.reduceAdd, Nat.reduceSub, Nat.reduceLeDiff, reduceCtorEq, implies_true, ne_eq, ↓asrcV, aggV, Tag.cap, List.replicate, allSolid, GVal.solid, Nat.reduceBEq, Nat.reduceMul, Nat.reduceLT, List.length_map, List.length_range, splice, vcA, ↓vcB, vcC, fbFu, e3, dk, hsG_len]
            exact ⟨1, .bool true, rfl, by rw [leA_bool]⟩
end Gv.Tryd
/- Sets of numbers as lists of spans: the plain theory. -/
set_option linter.unusedVariables false
namespace Gv.Sp
open Gv
abbrev S := Int × Int
def has (l : List S) (n : Int) : Prop := ∃ s ∈ l, 0 ≤ n ∧ s.1 ≤ n ∧ n ≤ s.2
theorem has_cons (s : S) (l : List S) (n : Int) : has (s :: l) n ↔ (0 ≤ n ∧ s.1 ≤ n ∧ n ≤ s.2) ∨ has l n := by simp [has]
def Rt : Int → List S → Prop
  | _, [] => True
  | b, s :: r => b ≤ s.1 ∧ s.1 ≤ s.2 ∧ Rt (s.2 + 2) r
theorem Rt.weak {b b' : Int} : ∀ {l : List S}, Rt b l → b' ≤ b → Rt b' l
  | [], _, _ => trivial
  | s :: r, ⟨h1, h2, h3⟩, h => ⟨by omega, h2, h3⟩
theorem Rt.ge {n : Int} : ∀ {l : List S} {b : Int}, Rt b l → has l n → b ≤ n
  | [], b, _, h => by simp [has] at h
  | s :: r, b, ⟨h1, h2, h3⟩, h => by
    rcases (has_cons s r n).1 h with h | h
    · omega
    · have := h3.ge h; omega
theorem Rt.mem {s : S} : ∀ {l : List S} {b : Int}, Rt b l → s ∈ l → b ≤ s.1 ∧ s.1 ≤ s.2
  | [], b, _, h => by simp at h
  | x :: r, b, ⟨h1, h2, h3⟩, h => by
    rcases List.mem_cons.1 h with rfl | h
    · exact ⟨h1, h2⟩
    · have := h3.mem h; omega
theorem Rt.lo {s : S} {l : List S} {b : Int} (h : Rt b l) (hb : 0 ≤ b) (hs : s ∈ l) : has l s.1 := ⟨s, hs, by have := h.mem hs; omega⟩
theorem Rt.hi {s : S} {l : List S} {b : Int} (h : Rt b l) (hb : 0 ≤ b) (hs : s ∈ l) : has l s.2 := ⟨s, hs, by have := h.mem hs; omega⟩
theorem uniq : ∀ {l l' : List S} {b b' : Int}, Rt b l → Rt b' l' → 0 ≤ b → 0 ≤ b' → (∀ n, has l n ↔ has l' n) → l = l'
  | [], [], _, _, _, _, _, _, _ => rfl
  | [], y :: r, _, b', _, h', _, h0', h => absurd ((h y.1).2 (h'.lo h0' (by simp))) (by simp [has])
  | x :: r, [], b, _, h', _, h0', _, h => absurd ((h x.1).1 (h'.lo h0' (by simp))) (by simp [has])
  | (x1, x2) :: r, (y1, y2) :: q, b, b', hx, hy, hb, hb', h => by
    have e1 : has ((y1, y2) :: q) x1 := (h _).1 (hx.lo hb (s := (x1, x2)) (by simp))
    have e2 : has ((x1, x2) :: r) y1 := (h _).2 (hy.lo hb' (s := (y1, y2)) (by simp))
    obtain ⟨p1, p2, p3⟩ := hx
    obtain ⟨q1, q2, q3⟩ := hy
    simp only at p1 p2 p3 q1 q2 q3
    have g1 : y1 ≤ x1 := by
      rcases (has_cons _ _ _).1 e1 with e | e
      · exact e.2.1
      · have := q3.ge e; omega
    have g2 : x1 ≤ y1 := by
      rcases (has_cons _ _ _).1 e2 with e | e
      · exact e.2.1
      · have := p3.ge e; omega
    have g : x1 = y1 := by omega
    have k1 : ¬ x2 < y2 := fun hlt => by
      have e := (h (x2 + 1)).2 ((has_cons _ _ _).2 (.inl ⟨by omega, by show y1 ≤ _; omega, by show _ ≤ y2; omega⟩))
      rcases (has_cons _ _ _).1 e with e | e
      · have := e.2.2; simp only at this; omega
      · have := p3.ge e; omega
    have k2 : ¬ y2 < x2 := fun hlt => by
      have e := (h (y2 + 1)).1 ((has_cons _ _ _).2 (.inl ⟨by omega, by show x1 ≤ _; omega, by show _ ≤ x2; omega⟩))
      rcases (has_cons _ _ _).1 e with e | e
      · have := e.2.2; simp only at this; omega
      · have := q3.ge e; omega
    have k : x2 = y2 := by omega
    subst g; subst k
    have hr : ∀ n, has r n ↔ has q n := fun n => by
      constructor
      · intro hn
        rcases (has_cons _ _ _).1 ((h n).1 ((has_cons _ _ _).2 (.inr hn))) with e | e
        · have := p3.ge hn; have := e.2.2; simp only at this; omega
        · exact e
      · intro hn
        rcases (has_cons _ _ _).1 ((h n).2 ((has_cons _ _ _).2 (.inr hn))) with e | e
        · have := q3.ge hn; have := e.2.2; simp only at this; omega
        · exact e
    rw [uniq p3 q3 (by omega) (by omega) hr]

def ins : List S → S → List S
  | [], s => [s]
  | x :: r, s => if x.2 + 1 < s.1 then x :: ins r s else if s.2 + 1 < x.1 then s :: x :: r else ins r (min s.1 x.1, max s.2 x.2)
def put (acc : List S) (s : S) : List S := if max s.1 0 ≤ s.2 then ins acc (max s.1 0, s.2) else acc
def Ok (l : List S) : Prop := ∀ s ∈ l, (-9223372036854775808 ≤ s.1 ∧ s.1 ≤ 9223372036854775807) ∧ (-9223372036854775808 ≤ s.2 ∧ s.2 ≤ 9223372036854775807)
theorem Ok.has {l : List S} (h : Ok l) {n : Int} (hn : has l n) : n ≤ 9223372036854775807 := by obtain ⟨s, hs, h1, h2, h3⟩ := hn; have := (h s hs).2.2; omega
theorem Ok.app {a b : List S} (ha : Ok a) (hb : Ok b) : Ok (a ++ b) := fun s hs => (List.mem_append.1 hs).elim (ha s) (hb s)
theorem Ok.nil : Ok [] := fun s hs => by simp at hs
theorem Ok.at {l : List S} (h : Ok l) (i : Nat) : (-9223372036854775808 ≤ (l.getD i (0, 0)).1 ∧ (l.getD i (0, 0)).1 ≤ 9223372036854775807) ∧ (-9223372036854775808 ≤ (l.getD i (0, 0)).2 ∧ (l.getD i (0, 0)).2 ≤ 9223372036854775807) := by
  by_cases hi : i < l.length
  · rw [List.getD_eq_getElem?_getD, List.getElem?_eq_getElem hi]; exact h _ (List.getElem_mem hi)
  · rw [List.getD_eq_getElem?_getD, List.getElem?_eq_none (by omega)]; simp
theorem Rt.at {l : List S} {b : Int} (h : Rt b l) (i : Nat) (hi : i < l.length) : b ≤ (l.getD i (0, 0)).1 ∧ (l.getD i (0, 0)).1 ≤ (l.getD i (0, 0)).2 := by
  rw [List.getD_eq_getElem?_getD, List.getElem?_eq_getElem hi]; exact h.mem (List.getElem_mem hi)

def both (a b : List S) : List S :=
  match a, b with
  | [], _ => []
  | _ :: _, [] => []
  | x :: a, y :: b => (if max x.1 y.1 ≤ min x.2 y.2 then [(max x.1 y.1, min x.2 y.2)] else []) ++ if x.2 < y.2 then both a (y :: b) else both (x :: a) b
termination_by a.length + b.length
def restF (low : Int) : List S → List S
  | [] => [(low, 9223372036854775807)]
  | s :: r => (if low < s.1 then [(low, s.1 - 1)] else []) ++ if s.2 = 9223372036854775807 then [] else restF (s.2 + 1) r
def rest (l : List S) : List S := restF 0 l
end Gv.Sp
/- Spans as ghost values. -/
set_option linter.unusedVariables false
namespace Gv
end Gv
/- What some shapes read as. -/
set_option linter.unusedVariables false
namespace Gv
open Go
theorem den_slice {α : Type} {e : Sh} (enc : α → List GVal) (ok : α → Prop) (he : ∀ {x}, Den e x → ∃ a, x = enc a ∧ ok a) {gs : List GVal} (h : Den (.slice e) gs) : ∃ l : List α, gs = [.slice (l.map enc) .none] ∧ l.length ≤ maxLen ∧ ∀ a ∈ l, ok a := by
  obtain ⟨xs, rfl, hl, hx⟩ := h
  have : ∀ xs : List (List GVal), (∀ x ∈ xs, Den e x) → ∃ l : List α, xs = l.map enc ∧ ∀ a ∈ l, ok a := by
    intro xs
    induction xs with
    | nil => exact fun _ => ⟨[], rfl, by simp⟩
    | cons a r ih =>
      intro h
      obtain ⟨l, rfl, hl⟩ := ih fun x hx => h x (by simp [hx])
      obtain ⟨n, rfl, hn⟩ := he (h a (by simp))
      exact ⟨n :: l, rfl, by simpa using ⟨hn, hl⟩⟩
  obtain ⟨l, rfl, h2⟩ := this xs hx
  exact ⟨l, rfl, by simpa using hl, h2⟩
end Gv
/- Readings of a law's raw requests. -/
set_option linter.unusedVariables false
namespace Gv.Tryd
open Go Gv Go.Proofs
abbrev rawS : Sh := .agg [.int .i64, .int .i64, .slice (.int .i64)]
abbrev rrS : Sh := .agg [.slice rawS, .slice (.int .i64), .int .i64, .int .i64]
theorem den_ints {gs : List GVal} (h : Den (.slice (.int .i64)) gs) : ∃ l : List Int, gs = [.slice (ints l) .none] := by
  obtain ⟨l, rfl, _⟩ := den_slice (fun n : Int => [.int .i64 n]) (fun n => (Lit.int .i64 n).wf = true) (fun {x} (h : Den (.int .i64) x) => h) h
  exact ⟨l, rfl⟩
theorem den_raw {gs : List GVal} (h : Den rawS gs) : ∃ r : RC, gs = rawC r ∧ True := by
  obtain ⟨ps, rfl, p, q, rfl, ⟨a, rfl, _⟩, p2, q2, rfl, ⟨b, rfl, _⟩, p3, q3, rfl, h3, rfl⟩ := h
  obtain ⟨l, rfl⟩ := den_ints h3
  exact ⟨(a, b, l), rfl, trivial⟩
theorem den_rr {gs : List GVal} (h : Den rrS gs) : ∃ r : RR, gs = rrG r ∧ True := by
  obtain ⟨ps, rfl, p, q, rfl, h1, p2, q2, rfl, h2, p3, q3, rfl, ⟨c, rfl, _⟩, p4, q4, rfl, ⟨d, rfl, _⟩, rfl⟩ := h
  obtain ⟨l, rfl, _, _⟩ := den_slice rawC (fun _ => True) (fun {x} h => den_raw h) h1
  obtain ⟨hs, rfl⟩ := den_ints h2
  exact ⟨⟨l, hs, c, d⟩, rfl, trivial⟩
end Gv.Tryd
/- GraphOrders: from the readings. -/
set_option linter.unusedVariables false
namespace Gv.Tryd
open Go Gv Go.Proofs
theorem wOrders {g0 g1 : List GVal} (h0 : Den rrS g0) (h1 : Den (.slice (.int .i64)) g1) : GPure Tryd.prog 3 ([Sh.val rrS g0, Sh.val (.slice (.int .i64)) g1]) (.bool true) := by
  obtain ⟨r, rfl, _⟩ := den_rr h0
  obtain ⟨l, rfl⟩ := den_ints h1
  exact specOrders r l
end Gv.Tryd
