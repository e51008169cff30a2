/- What a run comes to, block by block: plain Lean, no Go. Conditions: none. -/
import Derived.Test.YtggjcjdjhgfbmaaGreatIr
namespace Go.Proofs.YtggjcjdjhgfbmaaGreat

/-- The steps of a block, one behind the other; st is what a step comes to. -/
def runOps (st : Mach → LOp → Res) : Mach → List LOp → Res
  | m, [] => .go m
  | m, o :: l => match m.pay (m.cost o) with
    | .over m' e => .over m' e
    | .go m1 => match st m1 o with
      | .over m2 e => .over m2 e
      | .go m2 => runOps st m2 l
/-- What a block comes to: the next one, or the run's end. -/
inductive Nxt where
  | goto (m : Mach) (k : Nat)
  | done (m : Mach) (e : Int)
  deriving Inhabited
def Mach.halt (m : Mach) (b : LBlock) : Mach := if 0 ≤ b.a then { m with fin := 3, ret := m.rd b.a } else { m with fin := 3 }
def runEnd (m : Mach) (b : LBlock) : Nxt :=
  if b.fin = 1 then .goto m b.to.toNat
  else if b.fin = 2 then (if m.rd b.a = 0 then .goto m b.els.toNat else .goto m b.to.toNat)
  else if b.fin = 4 then .done { m with fin := 4, trap := b.to } 0
  else .done (m.halt b) 0
def runBlock (st : Mach → LOp → Res) (m : Mach) (b : LBlock) : Nxt :=
  match runOps st m b.ops with
  | .over m' e => .done m' e
  | .go m1 => match m1.pay 1 with
    | .over m' e => .done m' e
    | .go m2 => runEnd m2 b
def runs (st : Mach → LOp → Res) (bs : List LBlock) : Nat → Mach → Nat → Mach × Int
  | 0, m, _ => (m, 0)
  | n + 1, m, k => match bs[k]? with
    | none => (m, 0)
    | some b => match runBlock st m b with
      | .done m' e => (m', e)
      | .goto m' k' => runs st bs n m' k'
theorem runOps_nil (st : Mach → LOp → Res) (m : Mach) : runOps st m [] = .go m := rfl
theorem runOps_cons (st : Mach → LOp → Res) (m : Mach) (o : LOp) (l : List LOp) : runOps st m (o :: l) = match m.pay (m.cost o) with
    | .over m' e => .over m' e
    | .go m1 => match st m1 o with
      | .over m2 e => .over m2 e
      | .go m2 => runOps st m2 l := rfl
theorem runs_succ {st : Mach → LOp → Res} {bs : List LBlock} {n k : Nat} {m : Mach} {b : LBlock} (h : bs[k]? = some b) : runs st bs (n + 1) m k = match runBlock st m b with
      | .done m' e => (m', e)
      | .goto m' k' => runs st bs n m' k' := by simp only [runs, h]
theorem pay_over {m : Mach} {n : Int} (h : m.fuel - m.steps < n) : m.pay n = .over m 0 := by simp [Mach.pay, h]
theorem pay_go {m : Mach} {n : Int} (h : ¬ m.fuel - m.steps < n) : m.pay n = .go { m with steps := m.steps + n } := by simp [Mach.pay, h]
end Go.Proofs.YtggjcjdjhgfbmaaGreat
