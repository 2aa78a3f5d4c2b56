/- Keys of maps: strings, ints, rules, arcs, places. -/
import Derived.Test.YtielbaaaipkbdaaGreatDoorM0
import Derived.Test.YtielbaaaipkbdaaGreatDoorGW
import Derived.Test.YtielbaaaipkbdaaGreatDoorW12
namespace Go.Proofs.YtielbaaaipkbdaaGreatDoor
open Go.RowKit Classical

def OkStr (v : Value) : Prop := MapKept.IsKey .string v
def OkInt (v : Value) : Prop := MapKept.IsKey (.int .i64) v
theorem okStr (s : ByteArray) : OkStr (.string s) := trivial
theorem okInt (x : Int) : OkInt (.int .i64 x) := rfl
theorem okStr_inv {v : Value} (h : OkStr v) : ∃ s, v = .string s := by cases v <;> simp_all [OkStr, MapKept.IsKey]
theorem okInt_inv {v : Value} (h : OkInt v) : ∃ x, v = .int .i64 x := by cases v <;> simp_all [OkInt, MapKept.IsKey]
theorem keyStr : KeyT Tryz.prog 9 OkStr := keyT_plain Tryz.underlying9
theorem keyInt : KeyT Tryz.prog 3 OkInt := keyT_plain Tryz.underlying3

def ruleV (x : Rul) : Value := .agg #[.string x.src, .string x.dst, .string x.nxt, .bool x.fin]
def OkRule (v : Value) : Prop := ∃ x, v = ruleV x
theorem ruleV_inj {x y : Rul} (h : ruleV x = ruleV y) : x = y := by
  cases x; cases y; simpa [ruleV] using h
theorem ruleV_eq {x y : Rul} : ruleV x = ruleV y ↔ x = y := ⟨ruleV_inj, fun h => by rw [h]⟩

theorem check_str (em : Bool) (w : World) (s : ByteArray) : (Instr.checkKey em 9999 9 (.string s)).run Tryz.prog w = .ok () w := MapKept.run_checkKey (d := .string) (k := .string s) Tryz.underlying9 trivial em 9998
theorem check_int (em : Bool) (w : World) (x : Int) : (Instr.checkKey em 9999 3 (.int .i64 x)).run Tryz.prog w = .ok () w := MapKept.run_checkKey (d := .int .i64) (k := .int .i64 x) Tryz.underlying3 rfl em 9998
theorem check_bool (em : Bool) (w : World) (x : Bool) : (Instr.checkKey em 9999 4 (.bool x)).run Tryz.prog w = .ok () w := MapKept.run_checkKey (d := .bool) (k := .bool x) Tryz.underlying4 trivial em 9998
theorem equal_of_eql {T : TypeId} {xs ys : Array Value} {w : World} {p : Prop} [Decidable p] (h : (binOp .eql T (.agg xs) (.agg ys)).run Tryz.prog w = .ok (.bool (decide p)) w) :
    (Op.equal T (.agg xs) (.agg ys)).run Tryz.prog w = .ok (decide p) w := by
  rw [run_eql_struct] at h
  unfold Op.equal Op.maxDepth
  generalize (Op.equalIn 10000 T (.agg xs) (.agg ys)).run Tryz.prog w = r at h ⊢
  cases r with
  | ok b w1 => simp [Result.andThen] at h; rw [← h.2]; congr 1; simp [← h.1]
  | halt x w1 => simp [Result.andThen] at h

set_option maxRecDepth 100000 in
theorem keyRule : KeyT Tryz.prog 44 OkRule := by
  have hS : Tryz.prog.underlying 44 = some (.struct (Tryz.prog.fieldsOf 44)) := by kernel_rfl
  refine keyT_struct hS ?_ ?_ ?_ ?_
  · rintro _ _ ⟨x, rfl⟩ ⟨y, rfl⟩; rfl
  · rintro em w _ ⟨x, rfl⟩
    unfold ruleV
    rw [show (10000 : Nat) = 9998 + 1 + 1 from rfl, Instr.checkKey]
    simp only [Sem.run_bind, run_underlying Tryz.underlying44, Result.andThen_ok]
    rw [← Array.forIn_toList]
    go_simp
    simp only [check_str, check_bool, Result.andThen_ok]
  · rintro _ ⟨x, rfl⟩
    have hb := fun a : ByteArray => (MapKept.bytes_beq a a).2 rfl
    simp [ruleV, Instr.sameBits, hb]
  · rintro w _ _ ⟨x, rfl⟩ ⟨y, rfl⟩
    have := equal_of_eql (eql_rule x y w)
    rw [show (Op.equal 44 (ruleV x) (ruleV y)).run Tryz.prog w = .ok (decide (x = y)) w from this]
    congr 1
    rw [decide_eq_decide, ruleV_eq]

def arcV (x : Arc) : Value := .agg #[.int .i64 x.frm, .int .i64 x.inp, .int .i64 x.out, .int .i64 x.to]
def OkArc (v : Value) : Prop := ∃ x, v = arcV x
theorem arcV_inj {x y : Arc} (h : arcV x = arcV y) : x = y := by
  cases x; cases y; simpa [arcV] using h
theorem arcV_eq {x y : Arc} : arcV x = arcV y ↔ x = y := ⟨arcV_inj, fun h => by rw [h]⟩

set_option maxRecDepth 100000 in
theorem keyArc : KeyT Tryz.prog 58 OkArc := by
  have hS : Tryz.prog.underlying 58 = some (.struct (Tryz.prog.fieldsOf 58)) := by kernel_rfl
  refine keyT_struct hS ?_ ?_ ?_ ?_
  · rintro _ _ ⟨x, rfl⟩ ⟨y, rfl⟩; rfl
  · rintro em w _ ⟨x, rfl⟩
    unfold arcV
    rw [show (10000 : Nat) = 9998 + 1 + 1 from rfl, Instr.checkKey]
    simp only [Sem.run_bind, run_underlying Tryz.underlying58, Result.andThen_ok]
    rw [← Array.forIn_toList]
    go_simp
    simp only [check_int, Result.andThen_ok]
  · rintro _ ⟨x, rfl⟩
    have hb := fun a : ByteArray => (MapKept.bytes_beq a a).2 rfl
    simp [arcV, Instr.sameBits]
  · rintro w _ _ ⟨x, rfl⟩ ⟨y, rfl⟩
    have := equal_of_eql (eql_arc x y w)
    rw [show (Op.equal 58 (arcV x) (arcV y)).run Tryz.prog w = .ok (decide (x = y)) w from this]
    congr 1
    rw [decide_eq_decide, arcV_eq]

/-- A place: a state, a text. -/
structure Plc where
  st : Int
  tx : ByteArray
def plcV (x : Plc) : Value := .agg #[.int .i64 x.st, .string x.tx]
def OkPlc (v : Value) : Prop := ∃ x, v = plcV x
theorem plcV_inj {x y : Plc} (h : plcV x = plcV y) : x = y := by
  cases x; cases y; simpa [plcV] using h
theorem plcV_eq {x y : Plc} : plcV x = plcV y ↔ x = y := ⟨plcV_inj, fun h => by rw [h]⟩
theorem eql_plc (x y : Plc) (w : World) : (binOp .eql 82 (.agg #[.int .i64 x.st, .string x.tx]) (.agg #[.int .i64 y.st, .string y.tx])).run Tryz.prog w = .ok (.bool (decide (x = y))) w := by
  have hS : Tryz.prog.underlying 82 = some (.struct (Tryz.prog.fieldsOf 82)) := by kernel_rfl
  have hp : Tryz.prog.stoodInHeld 82 = false := by kernel_rfl
  rw [run_eql_struct, show (10000 : Nat) = 9999 + 1 from rfl, run_equalIn_agg w 9999 82 _ _ hS hp]
  simp only [Program.fieldsOf, Tryz.underlying82]
  go_simp
  have hb : ∀ a b : ByteArray, a.toList = b.toList ↔ a = b := fun a b => by
    rw [ByteArray.toList_eq, ByteArray.toList_eq]
    exact ⟨fun h => bl_inj h, fun h => by rw [h]⟩
  obtain ⟨a, b⟩ := x
  obtain ⟨a', b'⟩ := y
  simp only [Plc.mk.injEq]
  simp only [hb]
  by_cases h1 : a = a' <;> by_cases h2 : b = b' <;> simp [h1, h2]

set_option maxRecDepth 100000 in
theorem keyPlc : KeyT Tryz.prog 82 OkPlc := by
  have hS : Tryz.prog.underlying 82 = some (.struct (Tryz.prog.fieldsOf 82)) := by kernel_rfl
  refine keyT_struct hS ?_ ?_ ?_ ?_
  · rintro _ _ ⟨x, rfl⟩ ⟨y, rfl⟩; rfl
  · rintro em w _ ⟨x, rfl⟩
    unfold plcV
    rw [show (10000 : Nat) = 9998 + 1 + 1 from rfl, Instr.checkKey]
    simp only [Sem.run_bind, run_underlying Tryz.underlying82, Result.andThen_ok]
    rw [← Array.forIn_toList]
    go_simp
    simp only [check_str, check_int, Result.andThen_ok]
  · rintro _ ⟨x, rfl⟩
    have hb := fun a : ByteArray => (MapKept.bytes_beq a a).2 rfl
    simp [plcV, Instr.sameBits, hb]
  · rintro w _ _ ⟨x, rfl⟩ ⟨y, rfl⟩
    have := equal_of_eql (eql_plc x y w)
    rw [show (Op.equal 82 (plcV x) (plcV y)).run Tryz.prog w = .ok (decide (x = y)) w from this]
    congr 1
    rw [decide_eq_decide, plcV_eq]

end Go.Proofs.YtielbaaaipkbdaaGreatDoor
