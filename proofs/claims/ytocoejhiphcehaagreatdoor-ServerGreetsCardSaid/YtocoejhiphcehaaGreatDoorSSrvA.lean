/- Plain laws: a session, told over bytes. -/
import Derived.Test.YtocoejhiphcehaaGreatDoorLCmdB
import Derived.Test.YtocoejhiphcehaaGreatDoorSLn
import Derived.Test.YtocoejhiphcehaaGreatDoorLRefCheck
import Derived.Test.YtocoejhiphcehaaGreatDoorSNum
section
set_option linter.unusedSimpArgs false
set_option linter.unusedVariables false
set_option maxHeartbeats 2000000
set_option maxRecDepth 4000
namespace Go.Ab.Tryz
open Go Go.Ab Go.Proofs

/-- A session. -/
structure Ses where
  host : List UInt8
  rc : Int
  sz : Int
  kept : List UInt8
  state : Int
  fro : List UInt8
  to : List (List UInt8)
  body : List UInt8
  told : Bool
  waits : Bool
  shut : Bool
def Ses.clear (s : Ses) : Ses := { s with state := 1, fro := [], to := [], body := [], waits := false }
def small8 (c : UInt8) : UInt8 := if 65 ≤ c.toNat ∧ c.toNat ≤ 90 then c + 32 else c
/-- What an address is compared by. -/
def foldA (s : List UInt8) : List UInt8 := if lastAt 64 s s.length < 0 then s else s.take (lastAt 64 s s.length).toNat ++ (s.drop (lastAt 64 s s.length).toNat).map lowB
def rcptA (s : Ses) (t : List UInt8) : List UInt8 × Ses :=
  if s.state < 2 then ([53, 48, 51, 32, 119, 104, 101, 110, 13, 10], s)
  else if s.to.any (fun x => foldA x == foldA t) then ([50, 53, 48, 32, 111, 107, 13, 10], s)
  else if s.rc ≤ (s.to.length : Int) then ([52, 53, 50, 32, 109, 97, 110, 121, 13, 10], s)
  else ([50, 53, 48, 32, 111, 107, 13, 10], { s with to := s.to ++ [t], state := 3 })
/-- What a line is answered. -/
noncomputable def cmdA (s : Ses) (x : List UInt8) : List UInt8 × Ses :=
  if (cmdP x).2.2.2 = 500 then ([53, 48, 48, 32, 119, 104, 97, 116, 13, 10], s)
  else if (cmdP x).2.2.2 = 501 then ([53, 48, 49, 32, 104, 111, 119, 13, 10], s)
  else if (cmdP x).1 = 1 then ([50, 53, 48, 32] ++ (s.host ++ [13, 10]), s.clear)
  else if (cmdP x).1 = 2 then ([50, 53, 48, 45] ++ (s.host ++ ([13, 10] ++ ([50, 53, 48, 32, 83, 73, 90, 69, 32] ++ (Lib.itoa s.sz ++ [13, 10])))), s.clear)
  else if (cmdP x).1 = 3 then (if s.state ≠ 1 then ([53, 48, 51, 32, 119, 104, 101, 110, 13, 10], s) else if (cmdP x).2.2.1 > s.sz then ([53, 53, 50, 32, 115, 105, 122, 101, 13, 10], s) else ([50, 53, 48, 32, 111, 107, 13, 10], { s with state := 2, fro := (cmdP x).2.1 }))
  else if (cmdP x).1 = 4 then rcptA s (cmdP x).2.1
  else if (cmdP x).1 = 5 then (if s.state ≠ 3 then ([53, 48, 51, 32, 119, 104, 101, 110, 13, 10], s) else ([51, 53, 52, 32, 103, 111, 13, 10], { s with state := 4 }))
  else if (cmdP x).1 = 9 then ([50, 53, 50, 32, 109, 97, 121, 98, 101, 13, 10], s)
  else if (cmdP x).1 = 8 then ([50, 50, 49, 32, 98, 121, 101, 13, 10], { s with shut := true })
  else if (cmdP x).1 = 6 then ([50, 53, 48, 32, 111, 107, 13, 10], if s.state ≠ 0 then s.clear else s)
  else ([50, 53, 48, 32, 111, 107, 13, 10], s)
/-- A message off the wire. -/
def scanS (b : List UInt8) : Option (List UInt8 × List UInt8) := match h : crlfAt b with
  | none => none
  | some (x, y) => if x = [46] then some ([], y) else (scanS y).map fun p => ((if x.head? = some 46 then x.drop 1 else x) ++ (13 :: 10 :: p.1), p.2)
termination_by b.length
decreasing_by have := crlfAt_len h; omega
theorem scanS_none {b : List UInt8} (h : crlfAt b = none) : scanS b = none := by
  rw [scanS]; split
  · rfl
  · rename_i x y h2; rw [h] at h2; simp at h2
theorem scanS_some {b x y : List UInt8} (h : crlfAt b = some (x, y)) : scanS b = if x = [46] then some ([], y) else (scanS y).map fun p => ((if x.head? = some 46 then x.drop 1 else x) ++ (13 :: 10 :: p.1), p.2) := by
  conv => lhs; rw [scanS]
  split
  · rename_i h2; rw [h] at h2; simp at h2
  · rename_i x' y' h2
    rw [h] at h2
    simp only [Option.some.injEq, Prod.mk.injEq] at h2
    rw [h2.1, h2.2]
theorem scanS_len {b o r : List UInt8} (h : scanS b = some (o, r)) : r.length + 3 ≤ b.length ∧ o.length + r.length ≤ b.length := by
  induction hn : b.length using Nat.strongRecOn generalizing b o with
  | _ n ih =>
    cases hc : crlfAt b with
    | none => rw [scanS_none hc] at h; simp at h
    | some p =>
      obtain ⟨x, y⟩ := p
      have hl := crlfAt_len hc
      rw [scanS_some hc] at h
      by_cases hx : x = [46]
      · rw [if_pos hx] at h
        simp only [Option.some.injEq, Prod.mk.injEq] at h
        obtain ⟨rfl, rfl⟩ := h
        subst hx
        simp only [List.length_cons, List.length_nil] at hl ⊢
        omega
      · rw [if_neg hx] at h
        cases hs : scanS y with
        | none => rw [hs] at h; simp at h
        | some q =>
          obtain ⟨o2, r2⟩ := q
          rw [hs] at h
          simp only [Option.map_some, Option.some.injEq, Prod.mk.injEq] at h
          obtain ⟨rfl, rfl⟩ := h
          have := ih y.length (by omega) hs rfl
          refine ⟨by omega, ?_⟩
          have h3 : (if x.head? = some 46 then x.drop 1 else x).length ≤ x.length := by split <;> simp
          simp only [List.length_append, List.length_cons]
          omega
/-- One step of a session; all of them. -/
noncomputable def stepO (s : Ses) : Option (List UInt8 × Ses) :=
  if s.shut = true ∨ s.waits = true then none
  else if s.state = 4 then
    match scanS s.kept with
    | none => none
    | some (o, r) => if (o.length : Int) ≤ s.sz then some ([], { s with kept := r, body := o, waits := true }) else some ([53, 53, 50, 32, 115, 105, 122, 101, 13, 10], { s with kept := r }.clear)
  else match crlfAt s.kept with
    | none => none
    | some (x, y) => some (cmdA { s with kept := y } x)
theorem cmdA_keeps (s : Ses) (x : List UInt8) : (cmdA s x).2.kept = s.kept ∧ (cmdA s x).2.told = s.told ∧ (cmdA s x).2.host = s.host ∧ (cmdA s x).2.sz = s.sz ∧ (cmdA s x).2.rc = s.rc := by
  unfold cmdA rcptA
  refine ⟨?_, ?_, ?_, ?_, ?_⟩
  · simp only [apply_ite Prod.snd, apply_ite Ses.kept, Ses.clear, ite_self]
  · simp only [apply_ite Prod.snd, apply_ite Ses.told, Ses.clear, ite_self]
  · simp only [apply_ite Prod.snd, apply_ite Ses.host, Ses.clear, ite_self]
  · simp only [apply_ite Prod.snd, apply_ite Ses.sz, Ses.clear, ite_self]
  · simp only [apply_ite Prod.snd, apply_ite Ses.rc, Ses.clear, ite_self]
theorem stepO_len {s s' : Ses} {o : List UInt8} (h : stepO s = some (o, s')) : s'.kept.length < s.kept.length ∧ s'.told = s.told ∧ s'.host = s.host ∧ s'.sz = s.sz ∧ s'.rc = s.rc := by
  unfold stepO at h
  split at h
  · simp at h
  · split at h
    · split at h
      · simp at h
      · rename_i o2 r hs
        have := scanS_len hs
        split at h
        · simp only [Option.some.injEq, Prod.mk.injEq] at h
          obtain ⟨_, rfl⟩ := h
          exact ⟨by simp only; omega, rfl, rfl, rfl, rfl⟩
        · simp only [Option.some.injEq, Prod.mk.injEq] at h
          obtain ⟨_, rfl⟩ := h
          exact ⟨by simp only [Ses.clear]; omega, rfl, rfl, rfl, rfl⟩
    · split at h
      · simp at h
      · rename_i x y hc
        have := crlfAt_len hc
        simp only [Option.some.injEq] at h
        have k := cmdA_keeps { s with kept := y } x
        rw [h] at k
        simp only at k
        exact ⟨by rw [k.1]; omega, k.2⟩
noncomputable def runO : Nat → Ses → List UInt8 × Ses
  | 0, s => ([], s)
  | n + 1, s => match stepO s with
    | none => ([], s)
    | some p => (p.1 ++ (runO n p.2).1, (runO n p.2).2)
noncomputable def onS (s : Ses) : List UInt8 × Ses := runO (s.kept.length + 1) s
theorem runO_more : ∀ (n m : Nat) (s : Ses), s.kept.length < n → s.kept.length < m → runO n s = runO m s
  | 0, m, s, h, _ => by omega
  | n + 1, 0, s, _, h => by omega
  | n + 1, m + 1, s, h1, h2 => by
    simp only [runO]
    cases hs : stepO s with
    | none => rfl
    | some p =>
      obtain ⟨o, s'⟩ := p
      have := stepO_len hs
      simp only
      rw [runO_more n m s' (by omega) (by omega)]
theorem onS_none {s : Ses} (h : stepO s = none) : onS s = ([], s) := by
  unfold onS; rw [runO, h]
theorem onS_some {s s' : Ses} {o : List UInt8} (h : stepO s = some (o, s')) : onS s = (o ++ (onS s').1, (onS s').2) := by
  have := stepO_len h
  unfold onS
  rw [runO, h]
  simp only
  rw [runO_more s.kept.length (s'.kept.length + 1) s' (by omega) (by omega)]
theorem onS_keeps (s : Ses) : (onS s).2.kept.length ≤ s.kept.length ∧ (onS s).2.told = s.told ∧ (onS s).2.host = s.host ∧ (onS s).2.sz = s.sz ∧ (onS s).2.rc = s.rc := by
  induction hn : s.kept.length using Nat.strongRecOn generalizing s with
  | _ n ih =>
    cases h : stepO s with
    | none => rw [onS_none h]; exact ⟨Nat.le_of_eq hn, rfl, rfl, rfl, rfl⟩
    | some p =>
      obtain ⟨o, s'⟩ := p
      have h1 := stepO_len h
      have h2 := ih s'.kept.length (by omega) s' rfl
      rw [onS_some h]
      obtain ⟨a1, a2, a3, a4, a5⟩ := h2
      exact ⟨by simp only; omega, by simp only; rw [a2, h1.2.1], by simp only; rw [a3, h1.2.2.1], by simp only; rw [a4, h1.2.2.2.1], by simp only; rw [a5, h1.2.2.2.2]⟩
/-- Bytes come; a message is answered. -/
def hiS (s : Ses) : List UInt8 := if s.told = true then [] else [50, 50, 48, 32] ++ (s.host ++ [32, 114, 101, 97, 100, 121, 13, 10])
noncomputable def feedS (s : Ses) (b : List UInt8) : List UInt8 × Ses :=
  if s.shut = true then ([], s) else (hiS s ++ (onS { s with kept := s.kept ++ b, told := true }).1, (onS { s with kept := s.kept ++ b, told := true }).2)
def replyS (code : Int) : List UInt8 := if code.tdiv 100 = 2 then [50, 53, 48, 32, 111, 107, 13, 10] else if code.tdiv 100 = 4 then [52, 53, 50, 32, 108, 97, 116, 101, 114, 13, 10] else [53, 53, 52, 32, 110, 111, 13, 10]
noncomputable def answerS (s : Ses) (code : Int) : List UInt8 × Ses :=
  if s.shut = true ∨ s.waits = false then ([], s) else (replyS code ++ (onS s.clear).1, (onS s.clear).2)
/-- Whether a message is pending. -/
def Ses.Pends (s : Ses) : Prop := s.shut = false ∧ s.waits = true
def newS (host : List UInt8) (rc sz : Int) : Ses := ⟨host, rc, sz, [], 0, [], [], [], false, false, false⟩

end Go.Ab.Tryz

end

section
set_option linter.unusedSimpArgs false
set_option linter.unusedVariables false
set_option maxHeartbeats 2000000
set_option maxRecDepth 4000
namespace Go.Ab.Tryz
open Go Go.Ab Go.Proofs

theorem crlfApp : ∀ {a x r : List UInt8} (y : List UInt8), crlfAt a = some (x, r) → crlfAt (a ++ y) = some (x, r ++ y)
  | [], x, r, y, h => by simp [crlfAt] at h
  | c :: [], x, r, y, h => by simp [crlfAt] at h
  | c :: d :: t, x, r, y, h => by
    have ih := fun {x r} => @crlfApp (d :: t) x r y
    rw [crlfAt] at h
    rw [List.cons_append, crlfAt]
    by_cases hc : c = 13 ∧ (d :: t).head? = some 10
    · rw [if_pos hc] at h
      rw [if_pos (show c = 13 ∧ (d :: t ++ y).head? = some 10 from hc)]
      simp only [Option.some.injEq, Prod.mk.injEq] at h ⊢
      obtain ⟨rfl, rfl⟩ := h
      exact ⟨rfl, rfl⟩
    · rw [if_neg hc] at h
      rw [if_neg (show ¬ (c = 13 ∧ (d :: t ++ y).head? = some 10) from hc)]
      cases hs : crlfAt (d :: t) with
      | none => rw [hs] at h; simp at h
      | some q =>
        obtain ⟨x2, r2⟩ := q
        rw [hs] at h
        simp only [Option.map_some, Option.some.injEq, Prod.mk.injEq] at h
        obtain ⟨rfl, rfl⟩ := h
        rw [ih hs]; rfl
/-- Messages that were told. -/
structure MsgA where
  fro : List UInt8
  to : List (List UInt8)
  body : List UInt8
def Ses.msg (s : Ses) : MsgA := ⟨s.fro, s.to, s.body⟩
def codeA (l : List Int) (i : Nat) : Int := if l.length = 0 then 250 else l.getD (i % l.length) 0
/-- What was said; what messages there were; how many; the session behind. -/
structure Thru where
  out : List UInt8
  msgs : List MsgA
  n : Nat
  s : Ses
def Thru.then (a b : Thru) : Thru := ⟨a.out ++ b.out, a.msgs ++ b.msgs, b.n, b.s⟩
noncomputable def stepK (codes : List Int) (n : Nat) (s : Ses) : Option Thru :=
  if s.shut = false ∧ s.waits = true then (if n ≤ 200 then some ⟨replyS (codeA codes n), [s.msg], n + 1, s.clear⟩ else none)
  else (stepO s).map fun p => ⟨p.1, [], n, p.2⟩
noncomputable def runK (codes : List Int) : Nat → Nat → Ses → Thru
  | 0, n, s => ⟨[], [], n, s⟩
  | f + 1, n, s => match stepK codes n s with
    | none => ⟨[], [], n, s⟩
    | some t => t.then (runK codes f t.n t.s)
noncomputable def allK (codes : List Int) (n : Nat) (s : Ses) : Thru := runK codes (s.kept.length + (201 - n) + 1) n s
theorem stepK_len {codes : List Int} {n : Nat} {s : Ses} {t : Thru} (h : stepK codes n s = some t) : t.s.kept.length + (201 - t.n) < s.kept.length + (201 - n) ∧ t.s.told = s.told := by
  unfold stepK at h
  split at h
  · split at h
    · simp only [Option.some.injEq] at h
      subst h
      exact ⟨by simp only [Ses.clear]; omega, rfl⟩
    · simp at h
  · cases hs : stepO s with
    | none => rw [hs] at h; simp at h
    | some p =>
      obtain ⟨o, s'⟩ := p
      rw [hs] at h
      simp only [Option.map_some, Option.some.injEq] at h
      subst h
      have := stepO_len hs
      exact ⟨by simp only; omega, this.2.1⟩
theorem runK_more {codes : List Int} : ∀ (f g n : Nat) (s : Ses), s.kept.length + (201 - n) < f → s.kept.length + (201 - n) < g → runK codes f n s = runK codes g n s
  | 0, g, n, s, h, _ => by omega
  | f + 1, 0, n, s, _, h => by omega
  | f + 1, g + 1, n, s, h1, h2 => by
    simp only [runK]
    cases hs : stepK codes n s with
    | none => rfl
    | some t =>
      have := stepK_len hs
      simp only
      rw [runK_more f g t.n t.s (by omega) (by omega)]
theorem allK_none {codes : List Int} {n : Nat} {s : Ses} (h : stepK codes n s = none) : allK codes n s = ⟨[], [], n, s⟩ := by
  unfold allK; rw [runK, h]
theorem allK_some {codes : List Int} {n : Nat} {s : Ses} {t : Thru} (h : stepK codes n s = some t) : allK codes n s = t.then (allK codes t.n t.s) := by
  have := stepK_len h
  unfold allK
  rw [runK, h]
  simp only
  rw [runK_more (s.kept.length + (201 - n)) (t.s.kept.length + (201 - t.n) + 1) t.n t.s (by omega) (by omega)]
theorem then_assoc (a b c : Thru) : (a.then b).then c = a.then (b.then c) := by simp [Thru.then, List.append_assoc]
theorem thru_ext {a b : Thru} (h1 : a.out = b.out) (h2 : a.msgs = b.msgs) (h3 : a.n = b.n) (h4 : a.s = b.s) : a = b := by
  cases a; cases b; simp only at *; subst h1; subst h2; subst h3; subst h4; rfl
/-- More bytes behind. -/
def Ses.plus (s : Ses) (y : List UInt8) : Ses := { s with kept := s.kept ++ y }
def Thru.plus (t : Thru) (y : List UInt8) : Thru := { t with s := t.s.plus y }
theorem cmdA_kept (s : Ses) (k : List UInt8) (x : List UInt8) : cmdA { s with kept := k } x = ((cmdA s x).1, { (cmdA s x).2 with kept := k }) := by
  have key : ∀ (p : Prop) [Decidable p] (a b a' b' : List UInt8 × Ses), a' = (a.1, { a.2 with kept := k }) → b' = (b.1, { b.2 with kept := k }) → (if p then a' else b') = ((if p then a else b).1, { (if p then a else b).2 with kept := k }) := by
    intro p _ a b a' b' h1 h2
    subst h1; subst h2
    by_cases hp : p
    · simp only [if_pos hp]
    · simp only [if_neg hp]
  unfold cmdA rcptA
  repeat' (first | exact rfl | refine key _ _ _ _ _ ?_ ?_)
  · show ([50, 53, 48, 32, 111, 107, 13, 10], if s.state ≠ 0 then ({ s with kept := k } : Ses).clear else { s with kept := k }) = _
    by_cases h : s.state ≠ 0
    · simp only [if_pos h]; rfl
    · simp only [if_neg h]
theorem scanS_app {a o r : List UInt8} (y : List UInt8) (h : scanS a = some (o, r)) : scanS (a ++ y) = some (o, r ++ y) := by
  induction hn : a.length using Nat.strongRecOn generalizing a o with
  | _ n ih =>
    cases hc : crlfAt a with
    | none => rw [scanS_none hc] at h; simp at h
    | some p =>
      obtain ⟨x, z⟩ := p
      have hl := crlfAt_len hc
      rw [scanS_some hc] at h
      rw [scanS_some (crlfApp y hc)]
      by_cases hx : x = [46]
      · rw [if_pos hx] at h ⊢
        simp only [Option.some.injEq, Prod.mk.injEq] at h
        obtain ⟨rfl, rfl⟩ := h
        rfl
      · rw [if_neg hx] at h ⊢
        cases hs : scanS z with
        | none => rw [hs] at h; simp at h
        | some q =>
          obtain ⟨o2, r2⟩ := q
          rw [hs] at h
          simp only [Option.map_some, Option.some.injEq, Prod.mk.injEq] at h
          obtain ⟨rfl, rfl⟩ := h
          rw [ih z.length (by omega) hs rfl]; rfl
theorem stepO_plus {s s' : Ses} {o : List UInt8} (y : List UInt8) (h : stepO s = some (o, s')) : stepO (s.plus y) = some (o, s'.plus y) := by
  unfold stepO at h ⊢
  by_cases h1 : s.shut = true ∨ s.waits = true
  · rw [if_pos h1] at h; simp at h
  · rw [if_neg h1] at h
    rw [if_neg (show ¬ ((s.plus y).shut = true ∨ (s.plus y).waits = true) from h1)]
    by_cases h2 : s.state = 4
    · rw [if_pos h2] at h
      rw [if_pos (show (s.plus y).state = 4 from h2)]
      cases hs : scanS s.kept with
      | none => rw [hs] at h; simp at h
      | some q =>
        obtain ⟨o2, r⟩ := q
        rw [hs] at h
        rw [show (s.plus y).kept = s.kept ++ y from rfl, scanS_app y hs]
        simp only at h ⊢
        by_cases h3 : (o2.length : Int) ≤ s.sz
        · rw [if_pos h3] at h
          rw [if_pos (show (o2.length : Int) ≤ (s.plus y).sz from h3)]
          simp only [Option.some.injEq, Prod.mk.injEq] at h ⊢
          obtain ⟨rfl, rfl⟩ := h
          exact ⟨rfl, rfl⟩
        · rw [if_neg h3] at h
          rw [if_neg (show ¬ (o2.length : Int) ≤ (s.plus y).sz from h3)]
          simp only [Option.some.injEq, Prod.mk.injEq] at h ⊢
          obtain ⟨rfl, rfl⟩ := h
          exact ⟨rfl, rfl⟩
    · rw [if_neg h2] at h
      rw [if_neg (show ¬ (s.plus y).state = 4 from h2)]
      cases hc : crlfAt s.kept with
      | none => rw [hc] at h; simp at h
      | some p =>
        obtain ⟨x, z⟩ := p
        rw [hc] at h
        rw [show (s.plus y).kept = s.kept ++ y from rfl, crlfApp y hc]
        simp only [Option.some.injEq] at h ⊢
        rw [cmdA_kept s z x] at h
        rw [show ({ s.plus y with kept := z ++ y } : Ses) = { s with kept := z ++ y } from rfl, cmdA_kept s (z ++ y) x]
        simp only [Prod.mk.injEq] at h ⊢
        obtain ⟨rfl, rfl⟩ := h
        exact ⟨rfl, rfl⟩
theorem stepK_plus {codes : List Int} {n : Nat} {s : Ses} {t : Thru} (y : List UInt8) (h : stepK codes n s = some t) : stepK codes n (s.plus y) = some (t.plus y) := by
  unfold stepK at h ⊢
  by_cases h1 : s.shut = false ∧ s.waits = true
  · rw [if_pos h1] at h
    rw [if_pos (show (s.plus y).shut = false ∧ (s.plus y).waits = true from h1)]
    by_cases h2 : n ≤ 200
    · rw [if_pos h2] at h ⊢
      simp only [Option.some.injEq] at h ⊢
      subst h
      rfl
    · rw [if_neg h2] at h; simp at h
  · rw [if_neg h1] at h
    rw [if_neg (show ¬ ((s.plus y).shut = false ∧ (s.plus y).waits = true) from h1)]
    cases hs : stepO s with
    | none => rw [hs] at h; simp at h
    | some p =>
      obtain ⟨o, s'⟩ := p
      rw [hs] at h
      rw [stepO_plus y hs]
      simp only [Option.map_some, Option.some.injEq] at h ⊢
      subst h
      rfl
/-- All that comes of bytes, and of more behind. -/
theorem allK_plus (codes : List Int) (n : Nat) (s : Ses) (y : List UInt8) : allK codes n (s.plus y) = { out := (allK codes n s).out ++ (allK codes (allK codes n s).n ((allK codes n s).s.plus y)).out, msgs := (allK codes n s).msgs ++ (allK codes (allK codes n s).n ((allK codes n s).s.plus y)).msgs, n := (allK codes (allK codes n s).n ((allK codes n s).s.plus y)).n, s := (allK codes (allK codes n s).n ((allK codes n s).s.plus y)).s } := by
  induction hm : s.kept.length + (201 - n) using Nat.strongRecOn generalizing s n with
  | _ m ih =>
    cases h : stepK codes n s with
    | none => rw [allK_none h]; rfl
    | some t =>
      have h1 := stepK_len h
      rw [allK_some h, allK_some (stepK_plus y h)]
      have h2 := ih _ (by omega) t.n t.s rfl
      show (t.plus y).then (allK codes t.n (t.s.plus y)) = _
      rw [h2]
      simp only [Thru.then, Thru.plus, List.append_assoc]
/-- Messages that are pending are answered. -/
noncomputable def drainK (codes : List Int) : Nat → Nat → Ses → Thru
  | 0, n, s => ⟨[], [], n, s⟩
  | f + 1, n, s => if s.shut = false ∧ s.waits = true then (Thru.mk (answerS s (codeA codes n)).1 [s.msg] (n + 1) (answerS s (codeA codes n)).2).then (drainK codes f (n + 1) (answerS s (codeA codes n)).2) else ⟨[], [], n, s⟩
noncomputable def drain (codes : List Int) (n : Nat) (s : Ses) : Thru := drainK codes (201 - n) n s
theorem drain_stop {codes : List Int} {n : Nat} {s : Ses} (h : ¬ (s.shut = false ∧ s.waits = true) ∨ ¬ n ≤ 200) : drain codes n s = ⟨[], [], n, s⟩ := by
  unfold drain
  rcases Nat.lt_or_ge 200 n with hn | hn
  · rw [show 201 - n = 0 by omega]; rfl
  · rw [show 201 - n = (200 - n) + 1 by omega, drainK, if_neg (h.elim id (fun h => absurd hn h))]
theorem drain_go {codes : List Int} {n : Nat} {s : Ses} (h : s.shut = false ∧ s.waits = true) (hn : n ≤ 200) : drain codes n s = (Thru.mk (answerS s (codeA codes n)).1 [s.msg] (n + 1) (answerS s (codeA codes n)).2).then (drain codes (n + 1) (answerS s (codeA codes n)).2) := by
  unfold drain
  rw [show 201 - n = (200 - n) + 1 by omega, drainK, if_pos h, show 201 - (n + 1) = 200 - n by omega]
theorem allK_drain (codes : List Int) (n : Nat) (s : Ses) : allK codes n s = (Thru.mk (onS s).1 [] n (onS s).2).then (drain codes n (onS s).2) := by
  induction hm : s.kept.length + (201 - n) using Nat.strongRecOn generalizing s n with
  | _ m ih =>
    cases h : stepO s with
    | some p =>
      obtain ⟨o, s'⟩ := p
      have h1 := stepO_len h
      have hw : ¬ (s.shut = false ∧ s.waits = true) := fun hh => by
        unfold stepO at h
        rw [if_pos (.inr hh.2)] at h
        simp at h
      have hk : stepK codes n s = some ⟨o, [], n, s'⟩ := by unfold stepK; rw [if_neg hw, h]; rfl
      rw [allK_some hk, onS_some h, ih _ (by omega) n s' rfl]
      simp only [Thru.then, List.append_assoc, List.nil_append]
    | none =>
      rw [onS_none h]
      by_cases hw : s.shut = false ∧ s.waits = true
      · by_cases hn : n ≤ 200
        · have hk : stepK codes n s = some ⟨replyS (codeA codes n), [s.msg], n + 1, s.clear⟩ := by unfold stepK; rw [if_pos hw, if_pos hn]
          have h1 := stepK_len hk
          rw [allK_some hk, drain_go hw hn, ih _ (by simp only at h1; omega) (n + 1) s.clear rfl]
          have ha : answerS s (codeA codes n) = (replyS (codeA codes n) ++ (onS s.clear).1, (onS s.clear).2) := by unfold answerS; rw [if_neg (by rw [hw.1, hw.2]; simp)]
          rw [ha]
          simp only [Thru.then, List.append_assoc, List.nil_append]
        · have hk : stepK codes n s = none := by unfold stepK; rw [if_pos hw, if_neg hn]
          rw [allK_none hk, drain_stop (.inr hn)]; rfl
      · have hk : stepK codes n s = none := by unfold stepK; rw [if_neg hw, h]; rfl
        rw [allK_none hk, drain_stop (.inl hw)]; rfl
/-- Pieces, one behind the other. -/
noncomputable def pieceK (codes : List Int) (n : Nat) (s : Ses) (b : List UInt8) : Thru := (Thru.mk (feedS s b).1 [] n (feedS s b).2).then (drain codes n (feedS s b).2)
noncomputable def thruK (codes : List Int) : List (List UInt8) → Nat → Ses → Thru
  | [], n, s => ⟨[], [], n, s⟩
  | b :: l, n, s => (pieceK codes n s b).then (thruK codes l (pieceK codes n s b).n (pieceK codes n s b).s)
theorem pieceK_shut {codes : List Int} {n : Nat} {s : Ses} (b : List UInt8) (h : s.shut = true) : pieceK codes n s b = ⟨[], [], n, s⟩ := by
  unfold pieceK feedS
  rw [if_pos h]
  simp only
  rw [drain_stop (.inl (by rw [h]; simp))]; rfl
theorem pieceK_open {codes : List Int} {n : Nat} {s : Ses} (b : List UInt8) (h : s.shut = false) : pieceK codes n s b = (Thru.mk (hiS s) [] n s).then (allK codes n { s with kept := s.kept ++ b, told := true }) := by
  unfold pieceK feedS
  rw [if_neg (by rw [h]; simp), allK_drain]
  simp only [Thru.then, List.append_assoc, List.nil_append]
theorem thruK_shut {codes : List Int} : ∀ (l : List (List UInt8)) {n : Nat} {s : Ses}, s.shut = true → thruK codes l n s = ⟨[], [], n, s⟩
  | [], n, s, _ => rfl
  | b :: l, n, s, h => by rw [thruK, pieceK_shut b h]; simp only; rw [thruK_shut l h]; rfl
theorem allK_told (codes : List Int) (n : Nat) (s : Ses) : (allK codes n s).s.told = s.told := by
  induction hm : s.kept.length + (201 - n) using Nat.strongRecOn generalizing s n with
  | _ m ih =>
    cases h : stepK codes n s with
    | none => rw [allK_none h]
    | some t =>
      have h1 := stepK_len h
      rw [allK_some h]
      show (allK codes t.n t.s).s.told = _
      rw [ih _ (by omega) t.n t.s rfl, h1.2]
/-- Alike, as far as anybody sees. -/
def Thru.Like (a b : Thru) : Prop := a.out = b.out ∧ a.msgs = b.msgs ∧ a.s.shut = b.s.shut ∧ (a.s.shut = false → a.n = b.n ∧ a.s = b.s)
theorem piece_two (codes : List Int) (n : Nat) (s : Ses) (x y : List UInt8) : ((pieceK codes n s x).then (pieceK codes (pieceK codes n s x).n (pieceK codes n s x).s y)).Like (pieceK codes n s (x ++ y)) := by
  by_cases h : s.shut = true
  · rw [pieceK_shut x h, pieceK_shut (x ++ y) h]
    simp only
    rw [pieceK_shut y h]
    exact ⟨rfl, rfl, rfl, fun _ => ⟨rfl, rfl⟩⟩
  · simp only [Bool.not_eq_true] at h
    rw [pieceK_open x h, pieceK_open (x ++ y) h]
    have hp := allK_plus codes n { s with kept := s.kept ++ x, told := true } y
    rw [show Ses.plus { s with kept := s.kept ++ x, told := true } y = { s with kept := s.kept ++ (x ++ y), told := true } by simp [Ses.plus, List.append_assoc]] at hp
    have ht := allK_told codes n { s with kept := s.kept ++ x, told := true }
    rw [hp]
    generalize allK codes n { s with kept := s.kept ++ x, told := true } = r at *
    obtain ⟨o, m, n', s'⟩ := r
    simp only [Thru.then] at *
    by_cases h2 : s'.shut = true
    · rw [pieceK_shut y h2]
      have hk : stepK codes n' (s'.plus y) = none := by
        unfold stepK stepO
        rw [if_neg (by show ¬ (s'.shut = false ∧ _); rw [h2]; simp), if_pos (.inl h2)]; rfl
      rw [allK_none hk]
      refine ⟨by simp, by simp, rfl, fun h3 => ?_⟩
      simp only at h3
      rw [h2] at h3; simp at h3
    · simp only [Bool.not_eq_true] at h2
      rw [pieceK_open y h2]
      have hh : hiS s' = [] := by unfold hiS; rw [if_pos ht]
      have he : ({ s' with kept := s'.kept ++ y, told := true } : Ses) = s'.plus y := by
        unfold Ses.plus; rw [← ht]
      rw [hh, he]
      exact ⟨by simp [Thru.then], by simp [Thru.then], rfl, fun _ => ⟨rfl, rfl⟩⟩
theorem thru_like {codes : List Int} (l : List (List UInt8)) {a b : Thru} (h : a.Like b) : (a.then (thruK codes l a.n a.s)).Like (b.then (thruK codes l b.n b.s)) := by
  obtain ⟨h1, h2, h3, h4⟩ := h
  by_cases hs : a.s.shut = true
  · rw [thruK_shut l hs, thruK_shut l (h3 ▸ hs)]
    exact ⟨by simp [Thru.then, h1], by simp [Thru.then, h2], h3, fun h5 => by simp only [Thru.then] at h5; rw [hs] at h5; simp at h5⟩
  · simp only [Bool.not_eq_true] at hs
    obtain ⟨e1, e2⟩ := h4 hs
    rw [e1, e2]
    exact ⟨by simp [Thru.then, h1], by simp [Thru.then, h2], rfl, fun _ => ⟨rfl, rfl⟩⟩
theorem like_trans {a b c : Thru} (h : a.Like b) (k : b.Like c) : a.Like c := by
  obtain ⟨h1, h2, h3, h4⟩ := h
  obtain ⟨k1, k2, k3, k4⟩ := k
  refine ⟨h1.trans k1, h2.trans k2, h3.trans k3, fun hs => ?_⟩
  obtain ⟨e1, e2⟩ := h4 hs
  obtain ⟨e3, e4⟩ := k4 (h3 ▸ hs)
  exact ⟨e1.trans e3, e2.trans e4⟩
theorem thru_cut (codes : List Int) : ∀ (l : List (List UInt8)) (x : List UInt8) (n : Nat) (s : Ses), (thruK codes (x :: l) n s).Like (thruK codes [x ++ l.flatten] n s)
  | [], x, n, s => by simp only [List.flatten_nil, List.append_nil]; exact ⟨rfl, rfl, rfl, fun _ => ⟨rfl, rfl⟩⟩
  | y :: l, x, n, s => by
    have h1 := thru_like (codes := codes) l (piece_two codes n s x y)
    have h2 := thru_cut codes l (x ++ y) n s
    rw [List.flatten_cons, ← List.append_assoc]
    refine like_trans ?_ h2
    rw [show thruK codes (x :: y :: l) n s = ((pieceK codes n s x).then (pieceK codes (pieceK codes n s x).n (pieceK codes n s x).s y)).then (thruK codes l ((pieceK codes n s x).then (pieceK codes (pieceK codes n s x).n (pieceK codes n s x).s y)).n ((pieceK codes n s x).then (pieceK codes (pieceK codes n s x).n (pieceK codes n s x).s y)).s) by rw [then_assoc]; rfl]
    exact h1

end Go.Ab.Tryz

end

section
set_option linter.unusedSimpArgs false
set_option linter.unusedVariables false
set_option maxHeartbeats 2000000
set_option maxRecDepth 4000
namespace Go.Ab.Tryz
open Go Go.Ab Go.Proofs

theorem apR_ok {what s x y : List UInt8} (h : apR what s = some (x, y)) : x = [] ∨ MailboxOk x := by
  unfold apR at h
  cases hr : skipR what s with
  | none => rw [hr] at h; simp at h
  | some r =>
    rw [hr] at h
    change pathR r = some (x, y) at h
    unfold pathR at h
    split at h
    · split at h
      · rename_i a b hc
        split at h
        · rename_i ht
          simp only [Option.some.injEq, Prod.mk.injEq] at h
          obtain ⟨rfl, rfl⟩ := h
          exact (tf_iff.1 ht).imp List.length_eq_zero_iff.1 id
        · simp at h
      · simp at h
    · simp at h
theorem cmdP_text {b : List UInt8} (h0 : (cmdP b).2.2.2 ≠ 500) (h1 : (cmdP b).2.2.2 ≠ 501) : ((cmdP b).1 = 3 → (cmdP b).2.1 = [] ∨ MailboxOk (cmdP b).2.1) ∧ ((cmdP b).1 = 4 → MailboxOk (cmdP b).2.1) := by
  unfold cmdP at h0 h1 ⊢
  split
  · rename_i hq
    rw [if_pos hq] at h0 h1
    split
    · rename_i hv
      rw [if_pos hv] at h0
      exact absurd rfl h0
    · rename_i hv
      rw [if_neg hv] at h0 h1
      split
      · rename_i hf
        simp only
        refine ⟨fun e => ?_, fun e => ?_⟩
        · rw [e] at hf ⊢
          unfold fillB at hf
          unfold fillT
          simp only [Int.reduceEq, false_or, if_false, if_true, or_self] at hf ⊢
          cases hx : apR [70, 82, 79, 77, 58] (cutB b).2 with
          | none => rw [hx] at hf; simp at hf
          | some q => obtain ⟨x, y⟩ := q; exact apR_ok hx
        · rw [e] at hf ⊢
          unfold fillB at hf
          unfold fillT
          simp only [Int.reduceEq, false_or, if_false, if_true, or_self] at hf ⊢
          cases hx : apR [84, 79, 58] (cutB b).2 with
          | none => rw [hx] at hf; simp at hf
          | some q =>
            obtain ⟨x, y⟩ := q
            rw [hx] at hf
            simp only [Bool.and_eq_true, decide_eq_true_eq] at hf
            exact (apR_ok hx).resolve_left hf.1
      · rename_i hf
        rw [if_neg hf] at h1
        exact absurd rfl h1
  · rename_i hq
    rw [if_neg hq] at h0
    exact absurd rfl h0

/-- What holds of a session. -/
structure Ses.Inv (s : Ses) : Prop where
  fro : s.fro = [] ∨ MailboxOk s.fro
  to : ∀ x ∈ s.to, MailboxOk x
  one : s.to.Pairwise (· ≠ ·)
  few : (s.to.length : Int) ≤ s.rc
  some : s.state = 3 ∨ s.state = 4 → s.to ≠ []
  wait : s.waits = true → s.state = 4 ∧ (s.body.length : Int) ≤ s.sz
  rc : 0 ≤ s.rc
theorem inv_clear {s : Ses} (h : s.Inv) : s.clear.Inv := ⟨.inl rfl, fun x hx => by simp [Ses.clear] at hx, by simp [Ses.clear], by simpa [Ses.clear] using h.rc, fun h => by simp [Ses.clear] at h, fun h => by simp [Ses.clear] at h, h.rc⟩
theorem inv_new (host : List UInt8) {rc sz : Int} (h : 0 ≤ rc) : (newS host rc sz).Inv := ⟨.inl rfl, fun x hx => by simp [newS] at hx, by simp [newS], by simpa [newS] using h, fun h => by simp [newS] at h, fun h => by simp [newS] at h, h⟩
theorem inv_kept {s : Ses} (h : s.Inv) (k : List UInt8) (t : Bool) : ({ s with kept := k, told := t } : Ses).Inv := ⟨h.fro, h.to, h.one, h.few, h.some, h.wait, h.rc⟩
theorem ite_prop {p : Prop} [Decidable p] {α : Type} {P : α → Prop} {a b : α} (ha : p → P a) (hb : ¬ p → P b) : P (if p then a else b) := by
  by_cases h : p
  · rw [if_pos h]; exact ha h
  · rw [if_neg h]; exact hb h
theorem inv_rcpt {s : Ses} (h : s.Inv) (hw : s.waits = false) {t : List UInt8} (ht : MailboxOk t) : (rcptA s t).2.Inv := by
  unfold rcptA
  refine ite_prop (P := fun r : List UInt8 × Ses => r.2.Inv) (fun _ => h) (fun _ => ?_)
  refine ite_prop (P := fun r : List UInt8 × Ses => r.2.Inv) (fun _ => h) (fun hany => ?_)
  refine ite_prop (P := fun r : List UInt8 × Ses => r.2.Inv) (fun _ => h) (fun hrc => ?_)
  refine ⟨h.fro, fun y hy => ?_, ?_, ?_, fun _ => by simp, fun e => by simp only at e; rw [hw] at e; simp at e, h.rc⟩
  · simp only at hy
    rcases List.mem_append.1 hy with e | e
    · exact h.to y e
    · simp only [List.mem_singleton] at e
      rw [e]; exact ht
  · simp only
    rw [List.pairwise_append]
    refine ⟨h.one, by simp, fun a ha b hb => ?_⟩
    simp only [List.mem_singleton] at hb
    subst hb
    intro e
    subst e
    apply hany
    rw [List.any_eq_true]
    exact ⟨a, ha, by simp⟩
  · simp only [List.length_append, List.length_cons, List.length_nil]
    omega
theorem inv_cmd {s : Ses} (h : s.Inv) (hw : s.waits = false) (x : List UInt8) : (cmdA s x).2.Inv := by
  unfold cmdA
  refine ite_prop (P := fun r : List UInt8 × Ses => r.2.Inv) (fun _ => h) (fun h0 => ?_)
  refine ite_prop (P := fun r : List UInt8 × Ses => r.2.Inv) (fun _ => h) (fun h1 => ?_)
  obtain ⟨t1, t2⟩ := cmdP_text h0 h1
  refine ite_prop (P := fun r : List UInt8 × Ses => r.2.Inv) (fun _ => inv_clear h) (fun _ => ?_)
  refine ite_prop (P := fun r : List UInt8 × Ses => r.2.Inv) (fun _ => inv_clear h) (fun _ => ?_)
  refine ite_prop (P := fun r : List UInt8 × Ses => r.2.Inv) (fun hv => ?_) (fun _ => ?_)
  · refine ite_prop (P := fun r : List UInt8 × Ses => r.2.Inv) (fun _ => h) (fun _ => ?_)
    refine ite_prop (P := fun r : List UInt8 × Ses => r.2.Inv) (fun _ => h) (fun _ => ?_)
    exact ⟨t1 hv, h.to, h.one, h.few, fun e => by simp at e, fun e => by simp only at e; rw [hw] at e; simp at e, h.rc⟩
  refine ite_prop (P := fun r : List UInt8 × Ses => r.2.Inv) (fun hv => inv_rcpt h hw (t2 hv)) (fun _ => ?_)
  refine ite_prop (P := fun r : List UInt8 × Ses => r.2.Inv) (fun _ => ?_) (fun _ => ?_)
  · refine ite_prop (P := fun r : List UInt8 × Ses => r.2.Inv) (fun _ => h) (fun hs => ?_)
    simp only [ne_eq, Decidable.not_not] at hs
    exact ⟨h.fro, h.to, h.one, h.few, fun _ => h.some (.inl hs), fun e => by simp only at e; rw [hw] at e; simp at e, h.rc⟩
  refine ite_prop (P := fun r : List UInt8 × Ses => r.2.Inv) (fun _ => h) (fun _ => ?_)
  refine ite_prop (P := fun r : List UInt8 × Ses => r.2.Inv) (fun _ => ⟨h.fro, h.to, h.one, h.few, h.some, h.wait, h.rc⟩) (fun _ => ?_)
  refine ite_prop (P := fun r : List UInt8 × Ses => r.2.Inv) (fun _ => ?_) (fun _ => h)
  exact ite_prop (P := fun r : Ses => r.Inv) (fun _ => inv_clear h) (fun _ => h)
theorem inv_step {s s' : Ses} {o : List UInt8} (h : s.Inv) (hs : stepO s = some (o, s')) : s'.Inv := by
  unfold stepO at hs
  split at hs
  · simp at hs
  · rename_i hn
    simp only [not_or, Bool.not_eq_true] at hn
    split at hs
    · rename_i h4
      split at hs
      · simp at hs
      · rename_i o2 r hsc
        split at hs
        · rename_i hle
          simp only [Option.some.injEq, Prod.mk.injEq] at hs
          obtain ⟨_, rfl⟩ := hs
          exact ⟨h.fro, h.to, h.one, h.few, h.some, fun _ => ⟨h4, hle⟩, h.rc⟩
        · simp only [Option.some.injEq, Prod.mk.injEq] at hs
          obtain ⟨_, rfl⟩ := hs
          exact inv_clear (inv_kept h r s.told)
    · split at hs
      · simp at hs
      · rename_i x y hc
        simp only [Option.some.injEq] at hs
        have := inv_cmd (s := { s with kept := y }) (inv_kept h y s.told) hn.2 x
        rw [hs] at this
        exact this
theorem inv_on (s : Ses) (h : s.Inv) : (onS s).2.Inv := by
  induction hn : s.kept.length using Nat.strongRecOn generalizing s with
  | _ n ih =>
    cases hs : stepO s with
    | none => rw [onS_none hs]; exact h
    | some p =>
      obtain ⟨o, s'⟩ := p
      have h1 := stepO_len hs
      rw [onS_some hs]
      exact ih s'.kept.length (by omega) s' (inv_step h hs) rfl
theorem inv_feed {s : Ses} (h : s.Inv) (b : List UInt8) : (feedS s b).2.Inv ∧ (feedS s b).2.rc = s.rc ∧ (feedS s b).2.sz = s.sz ∧ (feedS s b).2.host = s.host := by
  unfold feedS
  split
  · exact ⟨h, rfl, rfl, rfl⟩
  · have hk := onS_keeps { s with kept := s.kept ++ b, told := true }
    exact ⟨inv_on _ (inv_kept h _ _), hk.2.2.2.2, hk.2.2.2.1, hk.2.2.1⟩
theorem inv_answer {s : Ses} (h : s.Inv) (c : Int) : (answerS s c).2.Inv ∧ (answerS s c).2.rc = s.rc ∧ (answerS s c).2.sz = s.sz ∧ (answerS s c).2.host = s.host := by
  unfold answerS
  split
  · exact ⟨h, rfl, rfl, rfl⟩
  · have hk := onS_keeps s.clear
    exact ⟨inv_on _ (inv_clear h), hk.2.2.2.2, hk.2.2.2.1, hk.2.2.1⟩
/-- What holds of a message. -/
def MsgA.Ok (rc sz : Int) (m : MsgA) : Prop := EnvOk m.fro m.to 0 ∧ m.to.Pairwise (· ≠ ·) ∧ (m.to.length : Int) ≤ rc ∧ (m.body.length : Int) ≤ sz
theorem msg_ok {s : Ses} (h : s.Inv) (hw : s.waits = true) : s.msg.Ok s.rc s.sz := by
  obtain ⟨w1, w2⟩ := h.wait hw
  refine ⟨⟨h.fro.imp (fun e => by show s.fro.length = 0; rw [e]; rfl) id, List.length_pos_iff.2 (h.some (.inr w1)), Int.le_refl _, fun i hi => ?_⟩, h.one, h.few, w2⟩
  have hi : i < s.to.length := hi
  show MailboxOk (s.to.getD i [])
  rw [List.getD_eq_getElem?_getD, List.getElem?_eq_getElem hi]
  exact h.to _ (List.getElem_mem _)
theorem drain_ok (codes : List Int) : ∀ (f n : Nat) (s : Ses), s.Inv → (∀ m ∈ (drainK codes f n s).msgs, m.Ok s.rc s.sz) ∧ (drainK codes f n s).s.Inv ∧ (drainK codes f n s).s.rc = s.rc ∧ (drainK codes f n s).s.sz = s.sz ∧ (drainK codes f n s).s.host = s.host
  | 0, n, s, h => ⟨fun m hm => by simp [drainK] at hm, h, rfl, rfl, rfl⟩
  | f + 1, n, s, h => by
    rw [drainK]
    split
    · rename_i hw
      obtain ⟨a1, a2, a3, a4⟩ := inv_answer h (codeA codes n)
      obtain ⟨b1, b2, b3, b4, b5⟩ := drain_ok codes f (n + 1) _ a1
      rw [a2, a3] at b1
      refine ⟨fun m hm => ?_, b2, b3.trans a2, b4.trans a3, b5.trans a4⟩
      simp only [Thru.then] at hm
      rcases List.mem_append.1 hm with e | e
      · simp only [List.mem_singleton] at e
        rw [e]; exact msg_ok h hw.2
      · exact b1 m e
    · exact ⟨fun m hm => by simp at hm, h, rfl, rfl, rfl⟩
theorem thru_ok (codes : List Int) : ∀ (l : List (List UInt8)) (n : Nat) (s : Ses), s.Inv → (∀ m ∈ (thruK codes l n s).msgs, m.Ok s.rc s.sz)
  | [], n, s, h => fun m hm => by simp [thruK] at hm
  | b :: l, n, s, h => by
    obtain ⟨a1, a2, a3, a4⟩ := inv_feed h b
    obtain ⟨b1, b2, b3, b4, b5⟩ := drain_ok codes (201 - n) n _ a1
    have ih := thru_ok codes l (pieceK codes n s b).n (pieceK codes n s b).s (by unfold pieceK; exact b2)
    have e1 : (pieceK codes n s b).s.rc = s.rc := by unfold pieceK; exact b3.trans a2
    have e2 : (pieceK codes n s b).s.sz = s.sz := by unfold pieceK; exact b4.trans a3
    rw [e1, e2] at ih
    rw [a2, a3] at b1
    intro m hm
    rw [thruK] at hm
    simp only [Thru.then] at hm
    rcases List.mem_append.1 hm with e | e
    · unfold pieceK at e
      simp only [Thru.then, List.nil_append] at e
      exact b1 m e
    · exact ih m e

/-- Lines, none of which greets. -/
def flatL (l : List (List UInt8)) : List UInt8 := (l.map (· ++ [13, 10])).flatten
def Calm (y : List UInt8) : Prop := 13 ∉ y ∧ y.take 4 ≠ [50, 50, 48, 32]
def Lns (out : List UInt8) : Prop := ∃ l : List (List UInt8), (∀ y ∈ l, Calm y) ∧ out = flatL l
theorem lns_nil : Lns [] := ⟨[], by simp, rfl⟩
theorem lns_app2 {a b : List UInt8} (ha : Lns a) (hb : Lns b) : Lns (a ++ b) := by
  obtain ⟨l, h1, rfl⟩ := ha
  obtain ⟨m, h2, rfl⟩ := hb
  exact ⟨l ++ m, fun y hy => (List.mem_append.1 hy).elim (h1 y) (h2 y), by simp [flatL]⟩
theorem lns_one {y : List UInt8} (h : Calm y) : Lns (y ++ [13, 10]) := ⟨[y], by simpa using h, by simp [flatL]⟩
theorem calm_host {host p : List UInt8} (h : 13 ∉ host) (hp : 13 ∉ p) (hl : p.length = 4) (hn : p ≠ [50, 50, 48, 32]) : Calm (p ++ host) := by
  refine ⟨fun hm => (List.mem_append.1 hm).elim hp h, ?_⟩
  rw [List.take_append_of_le_length (by omega), List.take_of_length_le (by omega)]
  exact hn
theorem itoa_no13 {n : Int} (h : 0 ≤ n) : 13 ∉ Lib.itoa n := fun hm => by have := itoa_digs h _ hm; revert this; decide
theorem lns_cmd {s : Ses} (hh : 13 ∉ s.host) (hz : 0 ≤ s.sz) (x : List UInt8) : Lns (cmdA s x).1 := by
  have c : ∀ y : List UInt8, (decide (13 ∉ y) && decide (y.take 4 ≠ [50, 50, 48, 32])) = true → Lns (y ++ [13, 10]) := fun y h => by
    simp only [Bool.and_eq_true, decide_eq_true_eq] at h
    exact lns_one h
  unfold cmdA
  refine ite_prop (P := fun r : List UInt8 × Ses => Lns r.1) (fun _ => c [53, 48, 48, 32, 119, 104, 97, 116] (by decide)) (fun _ => ?_)
  refine ite_prop (P := fun r : List UInt8 × Ses => Lns r.1) (fun _ => c [53, 48, 49, 32, 104, 111, 119] (by decide)) (fun _ => ?_)
  refine ite_prop (P := fun r : List UInt8 × Ses => Lns r.1) (fun _ => ?_) (fun _ => ?_)
  · show Lns ([50, 53, 48, 32] ++ (s.host ++ [13, 10]))
    rw [← List.append_assoc]
    exact lns_one (calm_host hh (by decide) (by decide) (by decide))
  refine ite_prop (P := fun r : List UInt8 × Ses => Lns r.1) (fun _ => ?_) (fun _ => ?_)
  · show Lns ([50, 53, 48, 45] ++ (s.host ++ ([13, 10] ++ ([50, 53, 48, 32, 83, 73, 90, 69, 32] ++ (Lib.itoa s.sz ++ [13, 10])))))
    rw [show ([50, 53, 48, 45] ++ (s.host ++ ([13, 10] ++ ([50, 53, 48, 32, 83, 73, 90, 69, 32] ++ (Lib.itoa s.sz ++ [13, 10])))) : List UInt8) = ([50, 53, 48, 45] ++ s.host ++ [13, 10]) ++ (([50, 53, 48, 32, 83, 73, 90, 69, 32] ++ Lib.itoa s.sz) ++ [13, 10]) by simp]
    refine lns_app2 (lns_one (calm_host hh (by decide) (by decide) (by decide))) (lns_one ⟨fun hm => ?_, ?_⟩)
    · rcases List.mem_append.1 hm with e | e
      · revert e; decide
      · exact itoa_no13 hz e
    · rw [List.take_append_of_le_length (by decide)]
      decide
  refine ite_prop (P := fun r : List UInt8 × Ses => Lns r.1) (fun _ => ?_) (fun _ => ?_)
  · refine ite_prop (P := fun r : List UInt8 × Ses => Lns r.1) (fun _ => c [53, 48, 51, 32, 119, 104, 101, 110] (by decide)) (fun _ => ?_)
    exact ite_prop (P := fun r : List UInt8 × Ses => Lns r.1) (fun _ => c [53, 53, 50, 32, 115, 105, 122, 101] (by decide)) (fun _ => c [50, 53, 48, 32, 111, 107] (by decide))
  refine ite_prop (P := fun r : List UInt8 × Ses => Lns r.1) (fun _ => ?_) (fun _ => ?_)
  · unfold rcptA
    refine ite_prop (P := fun r : List UInt8 × Ses => Lns r.1) (fun _ => c [53, 48, 51, 32, 119, 104, 101, 110] (by decide)) (fun _ => ?_)
    refine ite_prop (P := fun r : List UInt8 × Ses => Lns r.1) (fun _ => c [50, 53, 48, 32, 111, 107] (by decide)) (fun _ => ?_)
    exact ite_prop (P := fun r : List UInt8 × Ses => Lns r.1) (fun _ => c [52, 53, 50, 32, 109, 97, 110, 121] (by decide)) (fun _ => c [50, 53, 48, 32, 111, 107] (by decide))
  refine ite_prop (P := fun r : List UInt8 × Ses => Lns r.1) (fun _ => ?_) (fun _ => ?_)
  · exact ite_prop (P := fun r : List UInt8 × Ses => Lns r.1) (fun _ => c [53, 48, 51, 32, 119, 104, 101, 110] (by decide)) (fun _ => c [51, 53, 52, 32, 103, 111] (by decide))
  refine ite_prop (P := fun r : List UInt8 × Ses => Lns r.1) (fun _ => c [50, 53, 50, 32, 109, 97, 121, 98, 101] (by decide)) (fun _ => ?_)
  refine ite_prop (P := fun r : List UInt8 × Ses => Lns r.1) (fun _ => c [50, 50, 49, 32, 98, 121, 101] (by decide)) (fun _ => ?_)
  exact ite_prop (P := fun r : List UInt8 × Ses => Lns r.1) (fun _ => c [50, 53, 48, 32, 111, 107] (by decide)) (fun _ => c [50, 53, 48, 32, 111, 107] (by decide))
theorem lns_step {s s' : Ses} {o : List UInt8} (hh : 13 ∉ s.host) (hz : 0 ≤ s.sz) (hs : stepO s = some (o, s')) : Lns o := by
  unfold stepO at hs
  split at hs
  · simp at hs
  · split at hs
    · split at hs
      · simp at hs
      · split at hs
        · simp only [Option.some.injEq, Prod.mk.injEq] at hs
          obtain ⟨rfl, _⟩ := hs
          exact lns_nil
        · simp only [Option.some.injEq, Prod.mk.injEq] at hs
          obtain ⟨rfl, _⟩ := hs
          exact lns_one (y := [53, 53, 50, 32, 115, 105, 122, 101]) ⟨by decide, by decide⟩
    · split at hs
      · simp at hs
      · rename_i x y hc
        simp only [Option.some.injEq] at hs
        have := lns_cmd (s := { s with kept := y }) hh hz x
        rw [hs] at this
        exact this
theorem lns_on (s : Ses) (hh : 13 ∉ s.host) (hz : 0 ≤ s.sz) : Lns (onS s).1 := by
  induction hn : s.kept.length using Nat.strongRecOn generalizing s with
  | _ n ih =>
    cases hs : stepO s with
    | none => rw [onS_none hs]; exact lns_nil
    | some p =>
      obtain ⟨o, s'⟩ := p
      have h1 := stepO_len hs
      rw [onS_some hs]
      exact lns_app2 (lns_step hh hz hs) (ih s'.kept.length (by omega) s' (by rw [h1.2.2.1]; exact hh) (by rw [h1.2.2.2.1]; exact hz) rfl)
theorem lns_reply (c : Int) : Lns (replyS c) := by
  unfold replyS
  split
  · exact lns_one (y := [50, 53, 48, 32, 111, 107]) ⟨by decide, by decide⟩
  · split
    · exact lns_one (y := [52, 53, 50, 32, 108, 97, 116, 101, 114]) ⟨by decide, by decide⟩
    · exact lns_one (y := [53, 53, 52, 32, 110, 111]) ⟨by decide, by decide⟩
theorem lns_answer (s : Ses) (c : Int) (hh : 13 ∉ s.host) (hz : 0 ≤ s.sz) : Lns (answerS s c).1 ∧ (answerS s c).2.host = s.host ∧ (answerS s c).2.sz = s.sz ∧ (answerS s c).2.told = s.told := by
  unfold answerS
  split
  · exact ⟨lns_nil, rfl, rfl, rfl⟩
  · have hk := onS_keeps s.clear
    exact ⟨lns_app2 (lns_reply c) (lns_on _ hh hz), hk.2.2.1, hk.2.2.2.1, hk.2.1⟩
theorem lns_drain (codes : List Int) : ∀ (f n : Nat) (s : Ses), 13 ∉ s.host → 0 ≤ s.sz → Lns (drainK codes f n s).out ∧ (drainK codes f n s).s.host = s.host ∧ (drainK codes f n s).s.sz = s.sz ∧ (drainK codes f n s).s.told = s.told
  | 0, n, s, hh, hz => ⟨lns_nil, rfl, rfl, rfl⟩
  | f + 1, n, s, hh, hz => by
    rw [drainK]
    split
    · obtain ⟨a1, a2, a3, a4⟩ := lns_answer s (codeA codes n) hh hz
      obtain ⟨b1, b2, b3, b4⟩ := lns_drain codes f (n + 1) _ (by rw [a2]; exact hh) (by rw [a3]; exact hz)
      exact ⟨lns_app2 a1 b1, b2.trans a2, b3.trans a3, b4.trans a4⟩
    · exact ⟨lns_nil, rfl, rfl, rfl⟩
theorem lns_piece (codes : List Int) (n : Nat) (s : Ses) (b : List UInt8) (hh : 13 ∉ s.host) (hz : 0 ≤ s.sz) : ((s.told = true ∨ s.shut = true) → Lns (pieceK codes n s b).out) ∧ (s.shut = false → s.told = false → ∃ r, Lns r ∧ (pieceK codes n s b).out = [50, 50, 48, 32] ++ (s.host ++ [32, 114, 101, 97, 100, 121, 13, 10]) ++ r) ∧ (pieceK codes n s b).s.host = s.host ∧ (pieceK codes n s b).s.sz = s.sz ∧ ((pieceK codes n s b).s.told = true ∨ (pieceK codes n s b).s.shut = true) := by
  by_cases h : s.shut = true
  · rw [pieceK_shut b h]
    exact ⟨fun _ => lns_nil, fun h2 => by rw [h] at h2; simp at h2, rfl, rfl, .inr h⟩
  · have hk := onS_keeps { s with kept := s.kept ++ b, told := true }
    have ho := lns_on { s with kept := s.kept ++ b, told := true } hh hz
    obtain ⟨b1, b2, b3, b4⟩ := lns_drain codes (201 - n) n (onS { s with kept := s.kept ++ b, told := true }).2 (by rw [hk.2.2.1]; exact hh) (by rw [hk.2.2.2.1]; exact hz)
    unfold pieceK feedS
    rw [if_neg h]
    unfold drain
    simp only [Thru.then]
    refine ⟨fun ht => ?_, fun _ ht => ?_, b2.trans hk.2.2.1, b3.trans hk.2.2.2.1, .inl (b4.trans hk.2.1)⟩
    · have hi : hiS s = [] := by unfold hiS; rw [if_pos (ht.resolve_right h)]
      rw [hi, List.nil_append]
      exact lns_app2 ho b1
    · have hi : hiS s = [50, 50, 48, 32] ++ (s.host ++ [32, 114, 101, 97, 100, 121, 13, 10]) := by unfold hiS; rw [if_neg (by rw [ht]; simp)]
      rw [hi]
      exact ⟨_, lns_app2 ho b1, by rw [List.append_assoc]⟩
theorem lns_thru (codes : List Int) : ∀ (l : List (List UInt8)) (n : Nat) (s : Ses), 13 ∉ s.host → 0 ≤ s.sz → (s.told = true ∨ s.shut = true) → Lns (thruK codes l n s).out
  | [], n, s, _, _, _ => lns_nil
  | b :: l, n, s, hh, hz, ht => by
    obtain ⟨a1, _, a3, a4, a5⟩ := lns_piece codes n s b hh hz
    exact lns_app2 (a1 ht) (lns_thru codes l _ _ (by rw [a3]; exact hh) (by rw [a4]; exact hz) a5)
/-- A session greets once. -/
theorem greets (codes : List Int) (b : List UInt8) (l : List (List UInt8)) (s : Ses) (hh : 13 ∉ s.host) (hz : 0 ≤ s.sz) (h1 : s.told = false) (h2 : s.shut = false) : ∃ m, (∀ y ∈ m, Calm y) ∧ (thruK codes (b :: l) 0 s).out = [50, 50, 48, 32] ++ (s.host ++ [32, 114, 101, 97, 100, 121, 13, 10]) ++ flatL m := by
  obtain ⟨_, a2, a3, a4, a5⟩ := lns_piece codes 0 s b hh hz
  obtain ⟨r, hr, e⟩ := a2 h2 h1
  have ht := lns_thru codes l (pieceK codes 0 s b).n (pieceK codes 0 s b).s (by rw [a3]; exact hh) (by rw [a4]; exact hz) a5
  obtain ⟨m, hm, e2⟩ := lns_app2 hr ht
  refine ⟨m, hm, ?_⟩
  rw [thruK]
  simp only [Thru.then]
  rw [e, ← e2, List.append_assoc]
theorem flat_no : ∀ (l : List (List UInt8)), (∀ y ∈ l, 13 ∉ y) → (∀ y ∈ l.tail, Calm y) → ∀ j, ((flatL l).drop j).take 6 ≠ [13, 10, 50, 50, 48, 32]
  | [], _, _, j => by simp [flatL]
  | y :: l, h1, h2, j => by
    have hy := h1 y (by simp)
    have e : flatL (y :: l) = y ++ (13 :: 10 :: flatL l) := by simp [flatL]
    rw [e]
    intro hq
    rcases Nat.lt_or_ge j y.length with hj | hj
    · rw [List.drop_append_of_le_length (by omega), List.drop_eq_getElem_cons hj] at hq
      simp only [List.cons_append, List.take_succ_cons, List.cons.injEq] at hq
      exact hy (by rw [← hq.1]; exact List.getElem_mem _)
    · rw [List.drop_append, List.drop_of_length_le hj, List.nil_append] at hq
      rcases Nat.lt_or_ge (j - y.length) 2 with h3 | h3
      · rcases Nat.lt_or_ge (j - y.length) 1 with h4 | h4
        · rw [show j - y.length = 0 by omega] at hq
          simp only [List.drop_zero, List.take_succ_cons, List.cons.injEq, true_and] at hq
          cases l with
          | nil => simp [flatL] at hq
          | cons z l =>
            have hz := h2 z (by simp)
            have ez : flatL (z :: l) = z ++ (13 :: 10 :: flatL l) := by simp [flatL]
            rw [ez] at hq
            rcases Nat.lt_or_ge z.length 4 with h5 | h5
            · have h13 : (13 : UInt8) ∈ [50, 50, 48, 32] := by
                rw [← hq, List.take_append, List.take_of_length_le (by omega)]
                have : 4 - z.length = (3 - z.length) + 1 := by omega
                rw [this]
                simp
              revert h13; decide
            · rw [List.take_append_of_le_length (by omega)] at hq
              exact hz.2 hq
        · rw [show j - y.length = 1 by omega] at hq
          simp at hq
      · obtain ⟨k, hk⟩ : ∃ k, j - y.length = k + 2 := ⟨j - y.length - 2, by omega⟩
        rw [hk] at hq
        simp only [List.drop_succ_cons] at hq
        exact flat_no l (fun z hz => h1 z (by simp [hz])) (fun z hz => h2 z (by simp only [List.tail_cons]; exact List.mem_of_mem_tail hz)) k hq

end Go.Ab.Tryz

end
