/- The plain data of small-step programs and what a run of one comes to: no Go and no memory in this text. Conditions: none. -/
namespace Go.Proofs.YtggjcjdjhgfbmaaGreat

structure LOp where
  kind : Int
  fn : Int
  d : Int
  a : Int
  b : Int
  imm : Int
  deriving DecidableEq, Inhabited

structure LBlock where
  ops : List LOp
  fin : Int
  a : Int
  to : Int
  els : Int
  deriving DecidableEq, Inhabited

structure LHd where
  buf : Bool
  sec : Bool
  tur : Bool
  d : Int
  len : Int
  deriving DecidableEq, Inhabited

structure LIr where
  secret : List Bool
  params : List LHd
  blocks : List LBlock
  deriving DecidableEq, Inhabited

/-! ### which programs may be -/
def vOk (n : Nat) (v : Int) (is : Bool) : Bool := if is then decide (0 ≤ v) && decide (v < n) else v == 0
def secAt (s : List Bool) (v : Int) : Bool := s.getD v.toNat false
def hasFn (k : Int) : Bool := k == 3 || k == 4 || k == 5 || k == 9
def hasD (k : Int) : Bool := k == 1 || k == 2 || k == 3 || k == 4 || k == 9 || k == 12
def hasA (k : Int) : Bool := decide (2 ≤ k) && decide (k ≤ 12)
def hasB (k : Int) : Bool := k == 3 || k == 5 || k == 6 || k == 7 || k == 10
def opForm (n : Nat) (o : LOp) : Bool :=
  (decide (1 ≤ o.kind) && decide (o.kind ≤ 13)) && vOk n o.d (hasD o.kind) && vOk n o.a (hasA o.kind) && vOk n o.b (hasB o.kind) && (o.imm == 0 || o.kind == 1) &&
    (if o.kind == 3 then decide (1 ≤ o.fn) && decide (o.fn ≤ 14) else o.fn == 0 || o.fn == 1 && hasFn o.kind)
def opApart (s : List Bool) (o : LOp) : Bool :=
  if o.kind == 2 then secAt s o.d || !secAt s o.a
  else if o.kind == 3 then (decide (o.fn < 13) || !secAt s o.a && !secAt s o.b) && (secAt s o.d || !secAt s o.a && !secAt s o.b)
  else if o.kind == 4 then !secAt s o.a && (secAt s o.d || o.fn == 0)
  else if o.kind == 5 then !secAt s o.a && (!secAt s o.b || o.fn == 1)
  else if o.kind == 6 || o.kind == 7 || o.kind == 10 then !secAt s o.a && !secAt s o.b
  else if o.kind == 9 then !secAt s o.a && !secAt s o.d
  else if o.kind == 8 || o.kind == 11 then !secAt s o.a
  else true
def opOk (s : List Bool) (o : LOp) : Bool := opForm s.length o && opApart s o
def blockOk (nb : Nat) (v : Int) : Bool := decide (0 ≤ v) && decide (v < nb)
def endOk (s : List Bool) (nb : Nat) (b : LBlock) : Bool :=
  if b.fin == 1 then b.a == 0 && blockOk nb b.to && b.els == 0
  else if b.fin == 2 then vOk s.length b.a true && !secAt s b.a && blockOk nb b.to && blockOk nb b.els
  else if b.fin == 3 then (b.a == -1 || vOk s.length b.a true) && b.to == 0 && b.els == 0
  else if b.fin == 4 then b.a == 0 && decide (1 ≤ b.to) && decide (b.to ≤ 3) && b.els == 0
  else false
def hdOk (s : List Bool) (h : LHd) : Bool :=
  vOk s.length h.d true && vOk s.length h.len h.buf && (!h.tur || h.buf) && (secAt s h.d == (h.sec && !h.buf)) && !(h.buf && secAt s h.len)
def metOf (l : List LHd) : List Int := l.flatMap fun h => if h.buf then [h.d, h.len] else [h.d]
def paramsOk (p : LIr) : Bool := p.params.all (hdOk p.secret) && decide (p.params.length ≤ 8) && decide (metOf p.params).Nodup
def blocksOk (s : List Bool) (nb : Nat) : Nat → List LBlock → Bool
  | _, [] => true
  | n, b :: l => decide (n + b.ops.length ≤ 32768) && endOk s nb b && b.ops.all (opOk s) && blocksOk s nb (n + b.ops.length) l
def irOk (p : LIr) : Bool :=
  decide (p.secret.length ≤ 4096) && decide (1 ≤ p.blocks.length) && decide (p.blocks.length ≤ 4096) && paramsOk p && blocksOk p.secret p.blocks.length 0 p.blocks

/-! ### a run -/
structure LObj where
  fr : Int
  b : List Int
  sec : Bool
  fixed : Bool
  deriving DecidableEq, Inhabited

structure Mach where
  v : List Int
  handed : List LObj
  arena : List LObj
  left : List Int
  taken : Int
  size : Int
  fuel : Int
  fin : Int
  trap : Int
  ret : Int
  told : List Int
  steps : Int
  deriving DecidableEq, Inhabited

def Mach.rd (m : Mach) (i : Int) : Int := m.v.getD i.toNat 0
def Mach.put (m : Mach) (i x : Int) : Mach := { m with v := m.v.set i.toNat x }
/-- What a step comes to: it goes on, or the run is over (0: ended, or out of fuel; else at fault). -/
inductive Res where
  | go (m : Mach)
  | over (m : Mach) (e : Int)
  deriving Inhabited
def eights (n : Int) : Int := n / 8 + min (n % 8) 1
def Mach.room (m : Mach) (n : Int) : Bool := decide (eights n ≤ (m.size - m.taken) / 8)
def Mach.cost (m : Mach) (o : LOp) : Int :=
  if o.kind == 9 && m.room (m.rd o.a) then 1 + eights (m.rd o.a) else if o.kind == 10 then 1 + eights (m.rd o.b) else 1
def Mach.pay (m : Mach) (n : Int) : Res := if m.fuel - m.steps < n then .over m 0 else .go { m with steps := m.steps + n }
def Mach.trapped (m : Mach) (n : Int) : Res := .over { m with fin := 4, trap := n } 0
/-- Is a place within an object that is secret as is told, and may be turned? -/
def LObj.fits (x : LObj) (place fn : Int) (store : Bool) : Bool :=
  decide (x.fr ≤ place) && decide (place - x.fr < x.b.length) && (x.sec == (fn == 1)) && !(store && x.fixed)
def findObj (place fn : Int) (store : Bool) : List LObj → Option Nat
  | [] => none
  | x :: l => if x.fits place fn store then some 0 else (findObj place fn store l).map (· + 1)
def startAt (place : Int) (is : LObj → Bool) : List LObj → Option Nat
  | [] => none
  | x :: l => if x.fr == place && is x then some 0 else (startAt place is l).map (· + 1)
def LObj.byteAt (x : LObj) (place : Int) : Int := x.b.getD (place - x.fr).toNat 0
def LObj.setByte (x : LObj) (place n : Int) : LObj := { x with b := x.b.set (place - x.fr).toNat n }
def wordOp (fn a b : Int) : Int :=
  if fn == 1 then (a + b) % 18446744073709551616
  else if fn == 2 then (a - b) % 18446744073709551616
  else 0
end Go.Proofs.YtggjcjdjhgfbmaaGreat
