/- Layer 12 (lfi): the core as a plain machine. -/
import Derived.Test.YtahdjfegihnolaaMem
namespace Go.Proofs.Ytahdjfegihnolaa

abbrev Pf := Nat × Int
def lessP (a b : Pf) : Prop := a.1 < b.1 ∨ (a.1 = b.1 ∧ a.2 < b.2)
instance (a b : Pf) : Decidable (lessP a b) := by unfold lessP; infer_instance
def mayP (p : Pf) : Bool := decide (0 ≤ p.2) && decide (p.2 ≤ 32) && decide (p.1 * 2 ^ p.2.toNat % 2 ^ 32 = 0)
/-- An entry. -/
structure Le where
  p : Pf
  own : Bool
  tk : Bool
  said : Nat → Int
  told : Int
  feas : Int
  aw : Nat → Nat
/-- Of ports: which are up, and their cost. -/
structure Pc where
  up : Nat → Bool
  cost : Nat → Int
/-- An update that goes out: port, prefix, distance. -/
abbrev Tl := Nat × Pf × Int
structure Lc where
  room : Int
  pc : Pc
  all : List Le
def minUp (c : Pc) (said : Nat → Int) : Nat → Int
  | 0 => 255
  | n + 1 => if c.up n = true then min (minUp c said n) (said n + c.cost n) else minUp c said n
def distF (c : Pc) (x : Le) : Int := if x.own = true then 0 else if x.tk = false then 255 else minUp c x.said 8
def actF (x : Le) : Bool := (List.range 8).any fun p => decide (x.aw p ≠ 0)
def blankF (s : Nat → Int) : Bool := (List.range 8).all fun p => decide (s p = 255)
def staysF (x : Le) : Bool := x.own || decide (x.told ≠ 255) || actF x || !blankF x.said
def upsF (c : Pc) : List Nat := (List.range 8).filter c.up
def lookF (c : Pc) (x : Le) : Le × List Tl :=
  if actF x = true then ({ x with feas := min x.feas (distF c x) }, [])
  else if distF c x = x.told then ({ x with feas := x.told }, [])
  else ({ x with told := distF c x, feas := if upsF c = [] then distF c x else min x.told (distF c x), aw := fun q => if q < 8 ∧ c.up q = true then x.aw q + 1 else x.aw q }, (upsF c).map fun q => (q, x.p, distF c x))
def cntT (l : List Le) : Nat := l.countP fun x => x.tk && !x.own
def untk (l : List Le) : Nat := l.countP fun x => !x.tk
/-- A pass that takes. -/
def takeR (c : Pc) (room : Int) : Nat → List Le → List Le × List Tl × Nat
  | _, [] => ([], [], 0)
  | n, x :: l => if x.tk = false ∧ (n : Int) < room then
      ((lookF c { x with tk := true }).1 :: (takeR c room (n + 1) l).1, (lookF c { x with tk := true }).2 ++ (takeR c room (n + 1) l).2.1, (takeR c room (n + 1) l).2.2 + 1)
    else (x :: (takeR c room n l).1, (takeR c room n l).2.1, (takeR c room n l).2.2)
theorem lookF_tk (c : Pc) (x : Le) : (lookF c x).1.tk = x.tk ∧ (lookF c x).1.own = x.own ∧ (lookF c x).1.p = x.p ∧ (lookF c x).1.said = x.said := by
  unfold lookF
  split
  · exact ⟨rfl, rfl, rfl, rfl⟩
  · split <;> exact ⟨rfl, rfl, rfl, rfl⟩
theorem takeR_len (c : Pc) (room : Int) : ∀ (l : List Le) (n : Nat), (takeR c room n l).1.length = l.length ∧ untk (takeR c room n l).1 + (takeR c room n l).2.2 = untk l
  | [], n => ⟨rfl, rfl⟩
  | x :: l, n => by
    unfold takeR
    by_cases h : x.tk = false ∧ (n : Int) < room
    · rw [if_pos h]
      obtain ⟨h1, h2⟩ := takeR_len c room l (n + 1)
      refine ⟨by simp [h1], ?_⟩
      have h3 := (lookF_tk c { x with tk := true }).1
      unfold untk at h2 ⊢
      rw [List.countP_cons, List.countP_cons, h3, h.1]
      simp
      omega
    · rw [if_neg h]
      obtain ⟨h1, h2⟩ := takeR_len c room l n
      refine ⟨by simp [h1], ?_⟩
      unfold untk at h2 ⊢
      dsimp only
      rw [List.countP_cons, List.countP_cons]
      omega
theorem untk_filter (l : List Le) : untk (l.filter staysF) ≤ untk l := by
  unfold untk
  rw [List.countP_filter]
  refine List.countP_mono_left fun x _ h => ?_
  simp only [Bool.and_eq_true] at h
  exact h.1
def stayL (l : List Le) : List Le := l.filter staysF
/-- Entries go, and others are taken, on and on. -/
def tidyW (c : Pc) (room : Int) (l : List Le) : List Le × List Tl :=
  if (stayL l).length = l.length ∧ (takeR c room (cntT (stayL l)) (stayL l)).2.2 = 0 then (l, [])
  else ((tidyW c room (takeR c room (cntT (stayL l)) (stayL l)).1).1,
    (takeR c room (cntT (stayL l)) (stayL l)).2.1 ++ (tidyW c room (takeR c room (cntT (stayL l)) (stayL l)).1).2)
termination_by l.length + untk l
decreasing_by
  all_goals
    rename_i h
    obtain ⟨h1, h2⟩ := takeR_len c room (stayL l) (cntT (stayL l))
    have h3 : untk (stayL l) ≤ untk l := untk_filter l
    have h4 : (stayL l).length ≤ l.length := List.length_filter_le staysF l
    omega
def insE (e : Le) : List Le → List Le
  | [] => [e]
  | x :: l => if lessP x.p e.p then x :: insE e l else e :: x :: l
def setAt (f : Nat → Int) (p : Nat) (v : Int) : Nat → Int := fun q => if q = p then v else f q
def setN (f : Nat → Nat) (p : Nat) (v : Nat) : Nat → Nat := fun q => if q = p then v else f q
def setB (f : Nat → Bool) (p : Nat) (v : Bool) : Nat → Bool := fun q => if q = p then v else f q
def lookAllF (c : Pc) (l : List Le) : List Le × List Tl := (l.map fun x => (lookF c x).1, l.flatMap fun x => (lookF c x).2)
def downF (c : Pc) (p : Nat) : Pc := ⟨setB c.up p false, setAt c.cost p 0⟩
def upF (c : Pc) (p : Nat) (v : Int) : Pc := ⟨setB c.up p true, setAt c.cost p v⟩
def cutE (p : Nat) (x : Le) : Le := { x with said := setAt x.said p 255, aw := setN x.aw p 0 }
def portDownF (c : Pc) (l : List Le) (p : Nat) : List Le × List Tl := lookAllF (downF c p) (l.map (cutE p))
/-- What is told to a port that comes up. -/
def tellUp (p : Nat) (l : List Le) : List Le × List Tl :=
  (l.map fun x => if x.told ≠ 255 then { x with aw := setN x.aw p (x.aw p + 1) } else x, (l.filter fun x => decide (x.told ≠ 255)).map fun x => (p, x.p, x.told))
structure Ev where
  kind : Int
  port : Int
  cost : Int
  p : Pf
  dist : Int
def okE (e : Ev) : Bool :=
  decide (0 ≤ e.port) && decide (e.port < 8) &&
  (if e.kind = 1 ∨ e.kind = 3 then decide (1 ≤ e.cost) && decide (e.cost ≤ 50) && decide (e.p = (0, 0)) && decide (e.dist = 0)
  else if e.kind = 2 then decide (e.cost = 0) && decide (e.p = (0, 0)) && decide (e.dist = 0)
  else if e.kind = 4 then decide (e.cost = 0) && mayP e.p && decide (0 ≤ e.dist) && decide (e.dist ≤ 255)
  else if e.kind = 5 then decide (e.cost = 0) && mayP e.p && decide (e.dist = 0)
  else false)
def wrongF (c : Pc) (e : Ev) : Nat := if okE e = false then 2 else if e.kind ≠ 1 ∧ c.up e.port.toNat = false then 7 else 0
def newE (p : Pf) (tk : Bool) : Le := ⟨p, false, tk, fun _ => 255, 255, 255, fun _ => 0⟩
def ownE (p : Pf) : Le := ⟨p, true, true, fun _ => 255, 0, 0, fun _ => 0⟩
def findE (l : List Le) (p : Pf) : Option Le := l.find? fun x => x.p == p
/-- An entry of a prefix turns. -/
def turnE (l : List Le) (p : Pf) (f : Le → Le) : List Le := l.map fun x => if x.p = p then f x else x
def outE (l : List Le) (p : Pf) (f : Le → List Tl) : List Tl := l.flatMap fun x => if x.p = p then f x else []
def hearF (p : Nat) (d : Int) (x : Le) : Le := { x with said := setAt x.said p d }
def ackF (p : Nat) (x : Le) : Le := { x with aw := setN x.aw p (x.aw p - 1) }
/-- What an event does ahead of the tidying; none: it is refused. -/
def stepE (c : Lc) (e : Ev) : (Pc × List Le × List Tl) ⊕ Nat :=
  let p := e.port.toNat
  if e.kind = 1 then
    let d := if c.pc.up p = true then portDownF c.pc c.all p else (c.all, [])
    .inl (upF (if c.pc.up p = true then downF c.pc p else c.pc) p e.cost, (tellUp p d.1).1, d.2 ++ (tellUp p d.1).2)
  else if e.kind = 2 then .inl (downF c.pc p, portDownF c.pc c.all p)
  else if e.kind = 3 then .inl (⟨c.pc.up, setAt c.pc.cost p e.cost⟩, lookAllF ⟨c.pc.up, setAt c.pc.cost p e.cost⟩ c.all)
  else if e.kind = 4 then
    if findE c.all e.p = none ∧ 1024 ≤ c.all.length then .inr 5
    else
      let l := if findE c.all e.p = none then insE (newE e.p (decide ((cntT c.all : Int) < c.room))) c.all else c.all
      .inl (c.pc, turnE l e.p fun x => (lookF c.pc (hearF p e.dist x)).1, outE l e.p fun x => (lookF c.pc (hearF p e.dist x)).2)
  else match findE c.all e.p with
    | none => .inr 7
    | some x => if x.aw p = 0 then .inr 7 else .inl (c.pc, turnE c.all e.p fun x => (lookF c.pc (ackF p x)).1, outE c.all e.p fun x => (lookF c.pc (ackF p x)).2)
/-- An event: the core, what goes out, the error. -/
def doF (c : Lc) (e : Ev) : Lc × List Tl × Nat :=
  if wrongF c.pc e ≠ 0 then (c, [], wrongF c.pc e)
  else match stepE c e with
    | .inr n => (c, [], n)
    | .inl (pc, l, o) => (⟨c.room, pc, (tidyW pc c.room l).1⟩, o ++ (tidyW pc c.room l).2, 0)
def nextF (c : Pc) (x : Le) : List (Nat × Int) := ((List.range 8).filter fun p => x.tk && !x.own && c.up p && decide (x.said p < x.feas) && decide (x.said p + c.cost p < 255)).map fun p => (p, x.said p + c.cost p)
/-- A core with own prefixes. -/
def newF (room : Int) : List Pf → Option (List Le)
  | l => l.foldl (fun a p => match a with | none => none | some l => if mayP p = true ∧ findE l p = none then some (insE (ownE p) l) else none) (if 0 ≤ room ∧ room ≤ 64 ∧ l.length ≤ 8 then some [] else none)
end Go.Proofs.Ytahdjfegihnolaa
