/- The keys of package scan's maps. -/
import Derived.Test.YtcjhkjplpbhjiaaMap
import Derived.Test.YtcjhkjplpbhjiaaBy2
namespace Go.Proofs.Ytcjhkjplpbhjiaa
open Go.RowKit Go.Proofs
set_option maxRecDepth 100000

def ekey2 (k : Key2) : Value := .agg #[.int .i64 k.1, .int .i64 k.2]
def ekey3 (k : Key3) : Value := .agg #[.int .i64 k.1, .int .i64 k.2.1, .int .u8 k.2.2]
def emrk (m : Mrk) : Value := .agg #[.int .i64 m.sc, .int .i64 m.at_, .int .i64 m.off]

theorem check_int {P : Program} {E : TypeId} {kd : IntKind} (hi : P.underlying E = some (.int kd)) (b : Bool) (n : Nat) (x : Int) (w : World) : (Instr.checkKey b (n + 1) E (.int kd x)).run P w = .ok () w := by
  simp [Instr.checkKey, run_underlying hi]
theorem part_at {P : Program} {E : TypeId} {kd : IntKind} (hi : P.underlying E = some (.int kd)) (xs : Array Value) (o : Nat) (v : Value) (hv : xs[o]? = some v) (w : World) : (part E xs o).run P w = .ok v w :=
  run_part_plain w (by unfold Program.plainKey; rw [hi]) hv

theorem eq_int {P : Program} {E : TypeId} {kd : IntKind} (hi : P.underlying E = some (.int kd)) (n : Nat) (a b : Int) (w : World) : (Op.equalIn (n + 1) E (.int kd a) (.int kd b)).run P w = .ok (a == b) w := by
  simp [Op.equalIn, run_underlying hi]

set_option maxHeartbeats 1000000 in
theorem check2 (b : Bool) (k : Key2) (w : World) : Sem.run Try.prog (Instr.checkKey b 10000 102 (ekey2 k)) w = .ok () w := by
  have hu := Try.underlying102
  have hi := Try.underlying3
  have hz := Try.sizeOf3
  obtain ⟨k1, k2⟩ := k
  show Sem.run Try.prog (Instr.checkKey b (9999 + 1) 102 (.agg #[.int .i64 k1, .int .i64 k2])) w = .ok () w
  rw [Instr.checkKey]
  simp only [Sem.run_bind, run_underlying hu, Result.andThen_ok]
  simp only [Std.Legacy.Range.forIn_eq_forIn_range', Std.Legacy.Range.size]
  have e : List.range' 0 ((2 - 0 + 1 - 1) / 1) 1 = [0, 1] := rfl
  rw [e]
  have p0 := fun w => part_at hi #[.int .i64 k1, .int .i64 k2] 0 (.int .i64 k1) rfl w
  have p1 := fun w => part_at hi #[.int .i64 k1, .int .i64 k2] 1 (.int .i64 k2) rfl w
  have c0 := fun k w => check_int hi b 9998 k w
  simp [List.forIn_cons, List.forIn_nil, hz, p0, p1, c0]

set_option maxHeartbeats 1000000 in
theorem equal2 (a b : Key2) (w : World) : Sem.run Try.prog (Op.equal 102 (ekey2 a) (ekey2 b)) w = .ok (decide (a = b)) w := by
  have hu := Try.underlying102
  have hi := Try.underlying3
  obtain ⟨i, hinf⟩ := info_of_underlying hi
  have hc : Try.prog.cellsOf 3 = 1 := by kernel_rfl
  obtain ⟨a1, a2⟩ := a
  obtain ⟨b1, b2⟩ := b
  show Sem.run Try.prog (Op.equalIn (9999 + 1) 102 (.agg #[.int .i64 a1, .int .i64 a2]) (.agg #[.int .i64 b1, .int .i64 b2])) w = _
  rw [run_equalIn_array w 9999 _ _ hu hinf, hc]
  have e : List.range 2 = [0, 1] := rfl
  rw [e]
  have p0 := fun w => part_at hi #[.int .i64 a1, .int .i64 a2] 0 (.int .i64 a1) rfl w
  have p1 := fun w => part_at hi #[.int .i64 a1, .int .i64 a2] 1 (.int .i64 a2) rfl w
  have q0 := fun w => part_at hi #[.int .i64 b1, .int .i64 b2] 0 (.int .i64 b1) rfl w
  have q1 := fun w => part_at hi #[.int .i64 b1, .int .i64 b2] 1 (.int .i64 b2) rfl w
  have c0 := fun a b w => eq_int hi 9998 a b w
  simp [Op.eqItems, p0, p1, q0, q1, c0]
  clear p0 p1 q0 q1 c0
  by_cases h1 : a1 = b1 <;> by_cases h2 : a2 = b2 <;> simp [h1, h2]

theorem key2 : KeyLaw Try.prog 102 ekey2 := keyLaw_wide (by kernel_rfl) check2 equal2 (fun k => by simp [ekey2, Instr.sameBits])

set_option maxHeartbeats 1000000 in
theorem check3 (b : Bool) (k : Key3) (w : World) : Sem.run Try.prog (Instr.checkKey b 10000 98 (ekey3 k)) w = .ok () w := by
  have hu := Try.underlying98
  have hi := Try.underlying3
  have hj := Try.underlying5
  obtain ⟨k1, k2, k3⟩ := k
  show Sem.run Try.prog (Instr.checkKey b (9999 + 1) 98 (.agg #[.int .i64 k1, .int .i64 k2, .int .u8 k3])) w = .ok () w
  rw [Instr.checkKey]
  simp only [Sem.run_bind, run_underlying hu, Result.andThen_ok]
  have p0 := fun w => part_at hi #[.int .i64 k1, .int .i64 k2, .int .u8 k3] 0 (.int .i64 k1) rfl w
  have p1 := fun w => part_at hi #[.int .i64 k1, .int .i64 k2, .int .u8 k3] 1 (.int .i64 k2) rfl w
  have p2 := fun w => part_at hj #[.int .i64 k1, .int .i64 k2, .int .u8 k3] 2 (.int .u8 k3) rfl w
  have c0 := fun k w => check_int hi b 9998 k w
  have c1 := fun k w => check_int hj b 9998 k w
  simp [← Array.forIn_toList, List.forIn_cons, List.forIn_nil, p0, p1, p2, c0, c1]

set_option maxHeartbeats 1000000 in
theorem equal3 (a b : Key3) (w : World) : Sem.run Try.prog (Op.equal 98 (ekey3 a) (ekey3 b)) w = .ok (decide (a = b)) w := by
  have hu := Try.underlying98
  have hi := Try.underlying3
  have hj := Try.underlying5
  obtain ⟨a1, a2, a3⟩ := a
  obtain ⟨b1, b2, b3⟩ := b
  show Sem.run Try.prog (Op.equalIn (9999 + 1) 98 (.agg #[.int .i64 a1, .int .i64 a2, .int .u8 a3]) (.agg #[.int .i64 b1, .int .i64 b2, .int .u8 b3])) w = _
  rw [run_equalIn_struct w 9999 _ _ _ (by kernel_rfl) (by kernel_rfl)]
  unfold Program.fieldsOf
  rw [hu]
  have p0 := fun w => part_at hi #[.int .i64 a1, .int .i64 a2, .int .u8 a3] 0 (.int .i64 a1) rfl w
  have p1 := fun w => part_at hi #[.int .i64 a1, .int .i64 a2, .int .u8 a3] 1 (.int .i64 a2) rfl w
  have p2 := fun w => part_at hj #[.int .i64 a1, .int .i64 a2, .int .u8 a3] 2 (.int .u8 a3) rfl w
  have q0 := fun w => part_at hi #[.int .i64 b1, .int .i64 b2, .int .u8 b3] 0 (.int .i64 b1) rfl w
  have q1 := fun w => part_at hi #[.int .i64 b1, .int .i64 b2, .int .u8 b3] 1 (.int .i64 b2) rfl w
  have q2 := fun w => part_at hj #[.int .i64 b1, .int .i64 b2, .int .u8 b3] 2 (.int .u8 b3) rfl w
  have c0 := fun a b w => eq_int hi 9998 a b w
  have c1 := fun a b w => eq_int hj 9998 a b w
  simp [Op.eqFields, p0, p1, p2, q0, q1, q2, c0, c1]
  clear p0 p1 p2 q0 q1 q2 c0 c1
  by_cases h1 : a1 = b1 <;> by_cases h2 : a2 = b2 <;> by_cases h3 : a3 = b3 <;> simp [h1, h2, h3]

theorem key3 : KeyLaw Try.prog 98 ekey3 := keyLaw_wide (by kernel_rfl) check3 equal3 (fun k => by simp [ekey3, Instr.sameBits])
end Go.Proofs.Ytcjhkjplpbhjiaa
