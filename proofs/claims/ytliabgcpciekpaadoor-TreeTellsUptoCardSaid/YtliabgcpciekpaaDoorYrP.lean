/- Walks: two styles that are one, compared. -/
import Derived.Test.YtliabgcpciekpaaDoorYrF
import Derived.Laws.StructEq
set_option linter.unusedVariables false
set_option linter.unusedSimpArgs false
namespace Go.Proofs.YtliabgcpciekpaaDoor
open Go Go.RowKit

theorem eq_structSt : Tryd.prog.underlying 23 = some (.struct (Tryd.prog.fieldsOf 23)) := by kernel_rfl
theorem eq_heldSt : Tryd.prog.stoodInHeld 23 = false := by kernel_rfl
theorem eq_guardSt : Tryd.prog.eqGuardType Tryd.prog.depth 23 = false := by kernel_rfl
set_option maxRecDepth 100000 in
set_option maxHeartbeats 4000000 in
theorem eqSt (v : Nat → Int) (w : World) : (Op.equalIn 10000 23 (.agg (St.stv v).toArray) (.agg (St.stv v).toArray)).run Tryd.prog w = .ok true w := by
  have u3 := Tryd.underlying3
  have u4 := Tryd.underlying4
  rw [show (10000 : Nat) = 9999 + 1 from rfl, run_equalIn_agg w 9999 23 _ _ eq_structSt eq_heldSt]
  rw [show (St.stv v).toArray = #[.int .i64 (v 0), .int .i64 (v 1), .int .i64 (v 2), .int .i64 (v 3), .bool (v 4 == 1), .bool (v 5 == 1), .bool (v 6 == 1), .int .i64 (v 7), .int .i64 (v 8), .int .i64 (v 9), .int .i64 (v 10), .int .i64 (v 11), .int .i64 (v 12), .int .i64 (v 13), .int .i64 (v 14), .int .i64 (v 15), .int .i64 (v 16), .int .i64 (v 17)] from rfl]
  generalize (v 4 == 1) = b4
  generalize (v 5 == 1) = b5
  generalize (v 6 == 1) = b6
  simp only [Program.fieldsOf, Tryd.underlying23]
  go_simp
theorem eqStB (v : Nat → Int) (w : World) : (binOp .eql 23 (.agg (St.stv v).toArray) (.agg (St.stv v).toArray)).run Tryd.prog w = .ok (.bool true) w := by
  rw [run_eql_struct, eqSt]; rfl
theorem neSt (v : Nat → Int) (w : World) : (binOp .neq 23 (.agg (St.stv v).toArray) (.agg (St.stv v).toArray)).run Tryd.prog w = .ok (.bool false) w := by
  rw [run_neq_struct, eqSt]; rfl

theorem wpList_load_guarded {P : Program} {ops : Array Oper} {rest : List Oper} {op : Oper} {a : Act} {w : World} {Q : Exit → Act → World → Prop} (hw : Region.wanted op (yielded ops a.tmps) = true) (ty : TypeId) (x : Operand) (ho : op.op = .load ty x)
    (b o : Nat) (hx : a.eval x = .pointer (some ⟨b, o, none⟩)) (cs : List Value) (d : TypeDesc) (hc : w.rangeAt b o cs)
    (hu : P.underlying ty = some d) (hd : d.isRow = true) (hi : (P.info? ty).map (·.size) = some cs.length)
    (h : wpList P ops Q rest (a.put op.dst (.agg cs.toArray)) w) : wpList P ops Q (op :: rest) a w :=
  wpList_step fun K hK => by rw [if_pos hw]; exact wp_load_mid ty x ho b o hx cs d hc hu hd hi (hK _ _ h)

end Go.Proofs.YtliabgcpciekpaaDoor
