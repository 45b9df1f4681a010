/-
  A closed law, reckoned by the kernel through the evaluator: part S1. (The conditions stand in the row and the card that are given.) Written by an AI agent for this claim.
-/
import Derived.Test.YtbbpbklbmoeocaaGreatDoorEvH
import Derived.Test.YtbbpbklbmoeocaaGreatDoorRows
import Derived.KernelRfl
set_option linter.unusedVariables false
set_option linter.unusedSimpArgs false
namespace Go.Proofs.YtbbpbklbmoeocaaGreatDoor
open Go Go.Abs Go.Abs.F

def X (f : FuncId) : Option EK :=
  match f with
  | 49 => some (.load .i64) | 82 => some (.add .i64) | 216 => some (.load .u32) | 307 => some .store | 357 => some .none0 | 358 => some (.cas .i32) | 359 => some .none0 | 360 => some .none1 | 362 => some .none1 | 363 => some (.add .i32)
  | _ => none
noncomputable def C : Cfg := { P := Tryz.prog, G := 3, X := X }

theorem namesAll : (Tryz.prog.funcs.toList.all fun fn => !(fn.name == "runtime.NumGoroutine")) = true := by kernel_rfl
theorem namesOk : NamesOk C.P := by
  intro f fn hf
  have h := List.all_eq_true.1 namesAll fn (by
    have hf' : Tryz.prog.funcs[f]? = some fn := hf
    rw [← Array.getElem?_toList] at hf'
    exact List.mem_of_getElem? hf')
  simpa using h
theorem mix : C.P.follows .mixedOrders = true := by kernel_rfl

theorem ext49 : Extern.findNext Tryz.f49 = none ∧ ExtIs Tryz.f49 (.load .i64) := ⟨by kernel_rfl, (show Extern.find Tryz.f49 = some (Extern.Atomic.loadT (.int .i64)) by kernel_rfl)⟩
theorem ext82 : Extern.findNext Tryz.f82 = none ∧ ExtIs Tryz.f82 (.add .i64) := ⟨by kernel_rfl, (show Extern.find Tryz.f82 = some (Extern.Atomic.update (Op.intArith .add) .i64 true) by kernel_rfl)⟩
theorem ext216 : Extern.findNext Tryz.f216 = none ∧ ExtIs Tryz.f216 (.load .u32) := ⟨by kernel_rfl, (show Extern.find Tryz.f216 = some (Extern.Atomic.loadT (.int .u32)) by kernel_rfl)⟩
theorem ext307 : Extern.findNext Tryz.f307 = none ∧ ExtIs Tryz.f307 (.store) := ⟨by kernel_rfl, (show Extern.find Tryz.f307 = some Extern.Atomic.storeT by kernel_rfl)⟩
theorem ext357 : Extern.findNext Tryz.f357 = none ∧ ExtIs Tryz.f357 (.none0) := ⟨by kernel_rfl, .disable, by kernel_rfl⟩
theorem ext358 : Extern.findNext Tryz.f358 = none ∧ ExtIs Tryz.f358 (.cas .i32) := ⟨by kernel_rfl, (show Extern.find Tryz.f358 = some (Extern.Atomic.casT (.int .i32)) by kernel_rfl)⟩
theorem ext359 : Extern.findNext Tryz.f359 = none ∧ ExtIs Tryz.f359 (.none0) := ⟨by kernel_rfl, .enable, by kernel_rfl⟩
theorem ext360 : Extern.findNext Tryz.f360 = none ∧ ExtIs Tryz.f360 (.none1) := ⟨by kernel_rfl, .acquire, by kernel_rfl⟩
theorem ext362 : Extern.findNext Tryz.f362 = none ∧ ExtIs Tryz.f362 (.none1) := ⟨by kernel_rfl, .releaseMerge, by kernel_rfl⟩
theorem ext363 : Extern.findNext Tryz.f363 = none ∧ ExtIs Tryz.f363 (.add .i32) := ⟨by kernel_rfl, (show Extern.find Tryz.f363 = some (Extern.Atomic.update (Op.intArith .add) .i32 true) by kernel_rfl)⟩
theorem extOk : ExtOk C := by
  refine ext_ok namesOk (fun f fn k hf hk => ?_)
  replace hk : X f = some k := hk
  unfold X at hk
  split at hk
  · injection hk with hk; subst hk; obtain rfl : Tryz.f49 = fn := Option.some.inj (Tryz.func49.symm.trans hf); exact ext49
  · injection hk with hk; subst hk; obtain rfl : Tryz.f82 = fn := Option.some.inj (Tryz.func82.symm.trans hf); exact ext82
  · injection hk with hk; subst hk; obtain rfl : Tryz.f216 = fn := Option.some.inj (Tryz.func216.symm.trans hf); exact ext216
  · injection hk with hk; subst hk; obtain rfl : Tryz.f307 = fn := Option.some.inj (Tryz.func307.symm.trans hf); exact ext307
  · injection hk with hk; subst hk; obtain rfl : Tryz.f357 = fn := Option.some.inj (Tryz.func357.symm.trans hf); exact ext357
  · injection hk with hk; subst hk; obtain rfl : Tryz.f358 = fn := Option.some.inj (Tryz.func358.symm.trans hf); exact ext358
  · injection hk with hk; subst hk; obtain rfl : Tryz.f359 = fn := Option.some.inj (Tryz.func359.symm.trans hf); exact ext359
  · injection hk with hk; subst hk; obtain rfl : Tryz.f360 = fn := Option.some.inj (Tryz.func360.symm.trans hf); exact ext360
  · injection hk with hk; subst hk; obtain rfl : Tryz.f362 = fn := Option.some.inj (Tryz.func362.symm.trans hf); exact ext362
  · injection hk with hk; subst hk; obtain rfl : Tryz.f363 = fn := Option.some.inj (Tryz.func363.symm.trans hf); exact ext363
  · cases hk

/-- strings.asciiSpace -/
def spaceL : List AV := [0,0,0,0,0,0,0,0,0,1,1,1,1,1,0,0,0,0,0,0,0,0,0,0,0,0,0,0,0,0,0,0,1].map (fun n => .int .u8 (.ofNat n)) ++ List.replicate 223 (.int .u8 (.ofNat 0))
def spaceG : GRow := { g := 0, n := 256, e := 509, l := spaceL }
def gs : List GRow := [spaceG]

end Go.Proofs.YtbbpbklbmoeocaaGreatDoor
