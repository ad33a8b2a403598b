/- What the checks of a program compute, as plain functions: no code in sight. -/
import Derived.Test.YtbfjknidinkafaaGreatPgB
import Derived.Lib.SlicesS
namespace Go.Proofs.YtbfjknidinkafaaGreat
open Go.RowKit

/-- the first of f 0, .., f (n-1) that is something -/
def firstE {α : Type} : Nat → (Nat → Option α) → Option α
  | 0, _ => none
  | n + 1, f => match firstE n f with
    | some r => some r
    | none => f n
theorem firstE_none {α : Type} {f : Nat → Option α} : ∀ {n : Nat}, (∀ j, j < n → f j = none) → firstE n f = none
  | 0, _ => rfl
  | n + 1, h => by rw [firstE, firstE_none (fun j hj => h j (by omega))]; exact h n (by omega)
theorem firstE_some {α : Type} {f : Nat → Option α} {r : α} {i : Nat} : ∀ {n : Nat}, i < n → (∀ j, j < i → f j = none) → f i = some r → firstE n f = some r
  | n + 1, hi, h, hr => by
    rw [firstE]
    by_cases hin : i < n
    · rw [firstE_some hin h hr]
    · have e : i = n := by omega
      subst e
      rw [firstE_none h]; exact hr
theorem firstE_congr {α : Type} {f g : Nat → Option α} : ∀ {n : Nat}, (∀ j, j < n → f j = g j) → firstE n f = firstE n g
  | 0, _ => rfl
  | n + 1, h => by rw [firstE, firstE, firstE_congr (fun j hj => h j (by omega)), h n (by omega)]
theorem firstE_inv {α : Type} {f : Nat → Option α} : ∀ {n : Nat}, firstE n f = none → ∀ j, j < n → f j = none
  | 0, _, j, hj => by omega
  | n + 1, h, j, hj => by
    rw [firstE] at h
    rcases hf : firstE n f with _ | r
    · rw [hf] at h
      by_cases e : j < n
      · exact firstE_inv hf j e
      · have : j = n := by omega
        subst this; exact h
    · rw [hf] at h; cases h

/-- an earlier name is the same -/
def dupB (l : List ByteArray) (i : Nat) : Bool := Lib.containsS (l.take i) (l.getD i ByteArray.empty)
theorem dupB_iff {l : List ByteArray} {i : Nat} (hi : i < l.length) : dupB l i = true ↔ ∃ k, ∃ h : k < l.length, k < i ∧ l[k] = l[i] := by
  have e : l.getD i ByteArray.empty = l[i] := by simp [hi]
  rw [dupB, Lib.containsS_iff, e, List.mem_take_iff_getElem]
  constructor
  · rintro ⟨k, h1, h2⟩
    exact ⟨k, by omega, by omega, h2⟩
  · rintro ⟨k, h1, h2, h3⟩
    exact ⟨k, by omega, h3⟩

/-- slices reach at least to their ends, numbers lie in their kinds' ranges -/
structure ProgCap (p : ProgD) : Prop where
  fields : ∀ h ∈ p.headers.l, h.fields.l.length ≤ h.fields.c
  params : ∀ a ∈ p.actions.l, a.params.l.length ≤ a.params.c
  dep : p.deparser.l.length ≤ p.deparser.c
  dflt : ∀ t ∈ p.tables.l, (Lit.int .i64 t.defA).wf = true
  args : ∀ t ∈ p.tables.l, ∀ v ∈ t.args.l, (Lit.int .u32 v).wf = true
  cases : ∀ s ∈ p.states.l, ∀ c ∈ s.cases.l, (Lit.int .u32 c.value).wf = true ∧ (Lit.int .u32 c.mask).wf = true
/-- code, part, item, sub-item -/
structure DiagD where
  code : Int
  part : Int
  item : Int
  sub : Int
def DiagD.val (d : DiagD) : Value := .agg #[.int .i64 d.code, .int .i64 d.part, .int .i64 d.item, .int .i64 d.sub]
def noDiag : DiagD := ⟨0, 0, 0, 0⟩
/-- what a check that panics ends with -/
def outE : Option DiagD → Ending
  | none => .returned (.tuple #[])
  | some d => .panicked [{ v := .iface 137 d.val, recovered := false }]

def limM (p : ProgD) : Option DiagD :=
  if ident p.name = false then some ⟨6, 0, 0, 0⟩
  else if 8 < p.headers.l.length then some ⟨12, 0, 1, 0⟩
  else if 4 < p.registers.l.length then some ⟨12, 0, 3, 0⟩
  else if 16 < p.actions.l.length then some ⟨12, 0, 4, 0⟩
  else if 12 < p.tables.l.length then some ⟨12, 0, 5, 0⟩
  else none

/-- a field of a header or a parameter -/
def fldM (l : List FieldD) (i : Nat) : Option Int :=
  match l[i]? with
  | none => none
  | some f => if ident f.name = false then some 6 else if okW f.width = false then some 10 else if dupB (l.map FieldD.name) i = true then some 7 else none
def widthSum (l : List FieldD) : Int := (l.map FieldD.width).sum
def hdrM (h : HeaderD) : Int :=
  if ident h.name = false then 6 else if h.fields.l.length = 0 then 8 else if 12 < h.fields.l.length then 12
  else match firstE h.fields.l.length (fldM h.fields.l) with
    | some e => e
    | none => if Int.tmod (widthSum h.fields.l) 8 ≠ 0 then 10 else 0
def metaName : ByteArray := ⟨#[109, 101, 116, 97]⟩
def hdrAtM (l : List HeaderD) (i : Nat) : Option DiagD :=
  match l[i]? with
  | none => none
  | some h => if hdrM h ≠ 0 then some ⟨hdrM h, 1, i, 0⟩ else if h.name = metaName then some ⟨6, 1, i, 0⟩ else if dupB (l.map HeaderD.name) i = true then some ⟨7, 1, i, 0⟩ else none
def hdrsM (p : ProgD) : Option DiagD := firstE p.headers.l.length (hdrAtM p.headers.l)

def metaWant : List FieldD := [⟨⟨#[105, 110]⟩, 8⟩, ⟨⟨#[111, 117, 116]⟩, 8⟩, ⟨⟨#[100, 114, 111, 112]⟩, 1⟩]
def isWant (l : List FieldD) (i : Nat) : Bool :=
  match l[i]?, metaWant[i]? with
  | some f, some g => decide (f.name = g.name) && decide (f.width = g.width)
  | _, _ => false
def metaM (p : ProgD) : Option DiagD :=
  if 12 < p.metadata.l.length then some ⟨12, 2, 0, 0⟩
  else match firstE p.metadata.l.length (fun i => (fldM p.metadata.l i).map fun e => (⟨e, 2, i, 0⟩ : DiagD)) with
    | some d => some d
    | none => firstE 3 (fun i => if isWant p.metadata.l i = false then some ⟨5, 2, i, 0⟩ else none)

def regM (r : RegD) : Int := if ident r.name = false then 6 else if okW r.width = false then 10 else if r.size < 1 ∨ 64 < r.size then 9 else 0
def regAtM (l : List RegD) (i : Nat) : Option DiagD :=
  match l[i]? with
  | none => none
  | some r => if regM r ≠ 0 then some ⟨regM r, 3, i, 0⟩ else if dupB (l.map RegD.name) i = true then some ⟨7, 3, i, 0⟩ else none
def regsM (p : ProgD) : Option DiagD := firstE p.registers.l.length (regAtM p.registers.l)

/-- the fields of a header or of the metadata -/
def fieldsOf (p : ProgD) (h : Int) : Option (L FieldD) := if h = -1 then some p.metadata else if h < 0 then none else (p.headers.l[h.toNat]?).map HeaderD.fields
/-- the declaration of a field -/
def declF (p : ProgD) (h f : Int) : Option FieldD :=
  match fieldsOf p h with
  | none => none
  | some x => if f < 0 then none else x.l[f.toNat]?
/-- the declared width of a field -/
def declM (p : ProgD) (h f : Int) : Option Int := (declF p h f).map FieldD.width
def arityM (op : Int) : Int :=
  if 1 ≤ op ∧ op ≤ 4 then 0 else if 5 ≤ op ∧ op ≤ 8 then 1 else if 9 ≤ op ∧ op ≤ 16 then 2 else if op = 17 then 3 else -1
/-- a width and a code -/
def wideM (w : Int) : Int × Int := if okW w = true then (w, 0) else (0, 10)
def primM (p : ProgD) (ps : List FieldD) (x : NodeD) : Int × Int :=
  if x.op = 1 then (if okW x.w = true then (if x.n < 0 ∨ (maskM x.w : Int) < x.n then (0, 9) else (x.w, 0)) else (0, 10))
  else if x.op = 2 then (match declM p x.n x.w with | none => (0, 8) | some w => wideM w)
  else if x.op = 3 then (if x.n < 0 then (0, 8) else match ps[x.n.toNat]? with | none => (0, 8) | some f => wideM f.width)
  else (if x.n < 0 ∨ (p.headers.l.length : Int) ≤ x.n then (0, 8) else (1, 0))
def combM (x : NodeD) (a b c : Int) : Int × Int :=
  if x.op = 6 ∨ x.op = 7 then (if x.n < 0 ∨ 31 < x.n then (0, 9) else (a, 0))
  else if x.op = 8 then (if x.n < 0 then (0, 9) else if okW x.w = false ∨ a - x.w < x.n then (0, 10) else (x.w, 0))
  else if x.op = 14 then wideM (a + b)
  else if x.op = 17 then (if a ≠ 1 ∨ b ≠ c then (0, 10) else (b, 0))
  else if arityM x.op = 2 ∧ a ≠ b then (0, 10)
  else if x.op = 15 ∨ x.op = 16 then (1, 0)
  else (a, 0)
/-- width, next, code of the subexpression at 'at' -/
def chkM (p : ProgD) (ps : List FieldD) (l : List NodeD) : Nat → Nat → Int × Nat × Int
  | 0, _ => (0, 0, 3)
  | m + 1, i => match l[i]? with
    | none => (0, 0, 3)
    | some x =>
      if arityM x.op < 0 then (0, 0, 11)
      else if arityM x.op = 0 then ((primM p ps x).1, i + 1, (primM p ps x).2)
      else
        let r1 := chkM p ps l m (i + 1)
        if r1.2.2 ≠ 0 then (0, 0, r1.2.2)
        else if arityM x.op = 1 then ((combM x r1.1 0 0).1, r1.2.1, (combM x r1.1 0 0).2)
        else
          let r2 := chkM p ps l m r1.2.1
          if r2.2.2 ≠ 0 then (0, 0, r2.2.2)
          else if arityM x.op = 2 then ((combM x r1.1 r2.1 0).1, r2.2.1, (combM x r1.1 r2.1 0).2)
          else
            let r3 := chkM p ps l m r2.2.1
            if r3.2.2 ≠ 0 then (0, 0, r3.2.2)
            else ((combM x r1.1 r2.1 r3.1).1, r3.2.1, (combM x r1.1 r2.1 r3.1).2)
def exprM (p : ProgD) (ps : List FieldD) (l : List NodeD) : Int × Int :=
  if 24 < l.length then (0, 12)
  else if (chkM p ps l (l.length + 1) 0).2.2 ≠ 0 then (0, (chkM p ps l (l.length + 1) 0).2.2)
  else if (chkM p ps l (l.length + 1) 0).2.1 < l.length then (0, 4)
  else ((chkM p ps l (l.length + 1) 0).1, 0)

def sizedM (p : ProgD) (ps : List FieldD) (l : List NodeD) (w : Int) : Int := if (exprM p ps l).2 = 0 ∧ (exprM p ps l).1 ≠ w then 10 else (exprM p ps l).2
def regAt (p : ProgD) (i : Int) : Option RegD := if i < 0 then none else p.registers.l[i.toNat]?
def stmtM (p : ProgD) (ps : List FieldD) (s : StmtD) : Int :=
  if s.kind = 1 then (match declM p s.dh s.df with | none => 8 | some w => sizedM p ps s.value.l w)
  else if s.kind = 2 ∨ s.kind = 3 then (if s.hdr < 0 ∨ (p.headers.l.length : Int) ≤ s.hdr then 8 else 0)
  else if s.kind = 4 then (match regAt p s.reg, declM p s.dh s.df with
    | some r, some w => if (exprM p ps s.index.l).2 ≠ 0 then (exprM p ps s.index.l).2 else if w ≠ r.width then 10 else 0
    | _, _ => 8)
  else if s.kind = 5 then (match regAt p s.reg with
    | some r => if (exprM p ps s.index.l).2 ≠ 0 then (exprM p ps s.index.l).2 else sizedM p ps s.value.l r.width
    | none => 8)
  else 11
def declarM (a : ActD) : Int :=
  if ident a.name = false then 6 else if 4 < a.params.l.length ∨ 12 < a.body.l.length then 12
  else match firstE a.params.l.length (fldM a.params.l) with
    | some e => e
    | none => 0
/-- position and code of action i -/
def actM (p : ProgD) (a : ActD) : Int × Int :=
  if declarM a ≠ 0 then (-1, declarM a)
  else match firstE a.body.l.length (fun k => match a.body.l[k]? with | none => none | some s => if stmtM p a.params.l s ≠ 0 then some ((k : Int), stmtM p a.params.l s) else none) with
    | some r => r
    | none => (0, 0)
def actAtM (p : ProgD) (i : Nat) : Option DiagD :=
  match p.actions.l[i]? with
  | none => none
  | some a => if (actM p a).2 ≠ 0 then some ⟨(actM p a).2, 4, i, (actM p a).1⟩ else if dupB (p.actions.l.map ActD.name) i = true then some ⟨7, 4, i, 0⟩ else none
def actsM (p : ProgD) : Option DiagD := firstE p.actions.l.length (actAtM p)

def callM (p : ProgD) (a : Int) (args : List Int) : Int :=
  if a < 0 then 8 else match p.actions.l[a.toNat]? with
  | none => 8
  | some x => if args.length ≠ x.params.l.length then 2
    else match firstE args.length (fun i => match args[i]?, x.params.l[i]? with | some v, some f => if fitsM v f.width = false then some (9 : Int) else none | _, _ => none) with
      | some e => e
      | none => 0
def keyAtM (p : ProgD) (l : List KeyD) (i : Nat) : Option (Int × Int) :=
  match l[i]? with
  | none => none
  | some k => if widthAt p k.h k.f = 0 then some ((i : Int), 8) else if ¬ (k.kind = 1 ∨ k.kind = 2 ∨ k.kind = 3) then some ((i : Int), 11) else none
def lpmM (l : List KeyD) : Int := (l.map fun k => if k.kind = 2 then (1 : Int) else 0).sum
def bitsM (p : ProgD) (l : List KeyD) : Int := (l.map fun k => widthAt p k.h k.f).sum
def keysM (p : ProgD) (l : List KeyD) : Int × Int :=
  match firstE l.length (keyAtM p l) with
  | some r => r
  | none => if 1 < lpmM l then (-2, 7) else if 64 < bitsM p l then (-2, 10) else (0, 0)
def tactAtM (p : ProgD) (l : List Int) (i : Nat) : Option Int :=
  match l[i]? with
  | none => none
  | some a => if a < 0 ∨ (p.actions.l.length : Int) ≤ a then some 8 else if a ∈ l.take i then some 7 else none
def tactsM (p : ProgD) (t : TabD) : Int :=
  match firstE t.acts.l.length (tactAtM p t.acts.l) with
  | some e => e
  | none => if t.defA ∈ t.acts.l then callM p t.defA t.args.l else 8
def tabM (p : ProgD) (t : TabD) : Int × Int :=
  if ident t.name = false then (-1, 6) else if 6 < t.keys.l.length ∨ 16 < t.acts.l.length then (-1, 12) else if t.size < 1 ∨ 256 < t.size then (-1, 9)
  else if (keysM p t.keys.l).2 ≠ 0 then keysM p t.keys.l else if tactsM p t ≠ 0 then (-3, tactsM p t) else (0, 0)
def tabAtM (p : ProgD) (i : Nat) : Option DiagD :=
  match p.tables.l[i]? with
  | none => none
  | some t => if (tabM p t).2 ≠ 0 then some ⟨(tabM p t).2, 5, i, (tabM p t).1⟩ else if dupB (p.tables.l.map TabD.name) i = true then some ⟨7, 5, i, 0⟩ else none
def tabsM (p : ProgD) : Option DiagD := firstE p.tables.l.length (tabAtM p)

def leadsM (p : ProgD) (s : Nat) (n : Int) : Bool := decide (n = -1) || decide (n = -2) || (decide ((s : Int) < n) && decide (n < (p.states.l.length : Int)))
/-- v has no bit outside of m -/
def within (v m : Int) : Bool := decide (v.toNat &&& m.toNat = v.toNat)
def caseM (p : ProgD) (i : Nat) (w : Int) (c : CaseD) : Int :=
  if fitsM c.value w = false ∨ fitsM c.mask w = false then 9 else if within c.value c.mask = false then 5 else if leadsM p i c.next = false then 14 else 0
def caseAtM (p : ProgD) (i : Nat) (w : Int) (l : List CaseD) (k : Nat) : Option (Int × Int) :=
  match l[k]? with
  | none => none
  | some c => if caseM p i w c ≠ 0 then some ((k : Int), caseM p i w c) else none
def stateM (p : ProgD) (i : Nat) (s : StateD) : Int × Int :=
  if 4 < s.extract.l.length ∨ 8 < s.cases.l.length then (-1, 12)
  else if s.extract.l.any (fun h => decide (h < 0) || decide ((p.headers.l.length : Int) ≤ h)) = true then (-1, 8)
  else if s.sel = true ∧ widthAt p s.oh s.of = 0 then (-1, 8)
  else if s.sel = false ∧ 0 < s.cases.l.length then (-1, 11)
  else match firstE s.cases.l.length (caseAtM p i (widthAt p s.oh s.of) s.cases.l) with
    | some r => r
    | none => if leadsM p i s.dflt = false then (-1, 14) else (0, 0)
def stateAtM (p : ProgD) (i : Nat) : Option (Int × Int × Int) :=
  match p.states.l[i]? with
  | none => none
  | some s => if ident s.name = false then some ((i : Int), -1, 6) else if dupB (p.states.l.map StateD.name) i = true then some ((i : Int), -1, 7)
    else if (stateM p i s).2 ≠ 0 then some ((i : Int), (stateM p i s).1, (stateM p i s).2) else none
def parserM (p : ProgD) : Int × Int × Int :=
  if p.states.l.length = 0 then (-1, -1, 8) else if 12 < p.states.l.length then (-1, -1, 12)
  else match firstE p.states.l.length (stateAtM p) with
    | some r => r
    | none => (0, 0, 0)

mutual
def preM : CtlD → List CtlD
  | .mk k t c th el tA eA tc ec => .mk k t c th el tA eA tc ec :: (presM th ++ presM el)
/-- the nodes in preorder -/
def presM : List CtlD → List CtlD
  | [] => []
  | x :: l => preM x ++ presM l
end
mutual
def nest1M : CtlD → Nat
  | .mk _ _ _ th el _ _ _ _ => max (nestM th) (nestM el)
/-- how deep the branches are nested -/
def nestM : List CtlD → Nat
  | [] => 0
  | x :: l => max (nest1M x + 1) (nestM l)
end
def appliesM (x : CtlD) : Bool := decide (x.kind = 1) || decide (x.kind = 3)
/-- the tables that the nodes apply -/
def usedM (l : List CtlD) : List Int := (l.filter appliesM).map CtlD.table
def nodeM (p : ProgD) (used : List Int) (x : CtlD) : Int :=
  if x.kind = 1 ∨ x.kind = 3 then
    (if x.table < 0 ∨ (p.tables.l.length : Int) ≤ x.table then 8 else if x.table ∈ used then 7 else if x.kind = 1 ∧ 0 < x.th.l.length + x.el.l.length then 5 else 0)
  else if x.kind = 2 then (if (exprM p [] x.cond.l).2 ≠ 0 then (exprM p [] x.cond.l).2 else if (exprM p [] x.cond.l).1 ≠ 1 then 10 else 0)
  else 11
def nodeAtM (p : ProgD) (l : List CtlD) (i : Nat) : Option (Int × Int) :=
  match l[i]? with
  | none => none
  | some x => if nodeM p (usedM (l.take i)) x ≠ 0 then some ((i : Int), nodeM p (usedM (l.take i)) x) else none
def ctlM (p : ProgD) : Int × Int :=
  if 24 < (presM p.control.l).length then (-1, 12) else if 6 < nestM p.control.l then (-1, 14)
  else match firstE (presM p.control.l).length (nodeAtM p (presM p.control.l)) with
    | some r => r
    | none => (0, 0)
def depAtM (p : ProgD) (l : List Int) (i : Nat) : Option (Int × Int) :=
  match l[i]? with
  | none => none
  | some h => if h < 0 ∨ (p.headers.l.length : Int) ≤ h then some ((i : Int), 8) else if h ∈ l.take i then some ((i : Int), 7) else none
def depM (p : ProgD) : Int × Int :=
  if 8 < p.deparser.l.length then (-1, 12) else match firstE p.deparser.l.length (depAtM p p.deparser.l) with
    | some r => r
    | none => (0, 0)
def flowM (p : ProgD) : Option DiagD :=
  if (parserM p).2.2 ≠ 0 then some ⟨(parserM p).2.2, 6, (parserM p).1, (parserM p).2.1⟩
  else if (ctlM p).2 ≠ 0 then some ⟨(ctlM p).2, 7, (ctlM p).1, 0⟩
  else if (depM p).2 ≠ 0 then some ⟨(depM p).2, 8, (depM p).1, 0⟩
  else none
def orE {α : Type} : Option α → Option α → Option α
  | some a, _ => some a
  | none, b => b
/-- the first error of a program -/
def checkM (p : ProgD) : Option DiagD := orE (limM p) (orE (hdrsM p) (orE (metaM p) (orE (regsM p) (orE (actsM p) (orE (tabsM p) (flowM p))))))
end Go.Proofs.YtbfjknidinkafaaGreat

