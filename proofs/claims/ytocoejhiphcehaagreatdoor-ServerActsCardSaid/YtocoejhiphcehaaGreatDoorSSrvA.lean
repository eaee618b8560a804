/- Plain laws: a session, told over bytes. -/
import Derived.Test.YtocoejhiphcehaaGreatDoorLCmdB
import Derived.Test.YtocoejhiphcehaaGreatDoorSLn
section
set_option linter.unusedSimpArgs false
set_option linter.unusedVariables false
set_option maxHeartbeats 2000000
set_option maxRecDepth 4000
namespace Go.Ab.Tryz
open Go Go.Ab Go.Proofs

/-- A session. -/
structure Ses where
  host : List UInt8
  rc : Int
  sz : Int
  kept : List UInt8
  state : Int
  fro : List UInt8
  to : List (List UInt8)
  body : List UInt8
  told : Bool
  waits : Bool
  shut : Bool
def Ses.clear (s : Ses) : Ses := { s with state := 1, fro := [], to := [], body := [], waits := false }
def small8 (c : UInt8) : UInt8 := if 65 ≤ c.toNat ∧ c.toNat ≤ 90 then c + 32 else c
/-- What an address is compared by. -/
def foldA (s : List UInt8) : List UInt8 := if lastAt 64 s s.length < 0 then s else s.take (lastAt 64 s s.length).toNat ++ (s.drop (lastAt 64 s s.length).toNat).map lowB
def rcptA (s : Ses) (t : List UInt8) : List UInt8 × Ses :=
  if s.state < 2 then ([53, 48, 51, 32, 119, 104, 101, 110, 13, 10], s)
  else if s.to.any (fun x => foldA x == foldA t) then ([50, 53, 48, 32, 111, 107, 13, 10], s)
  else if s.rc ≤ (s.to.length : Int) then ([52, 53, 50, 32, 109, 97, 110, 121, 13, 10], s)
  else ([50, 53, 48, 32, 111, 107, 13, 10], { s with to := s.to ++ [t], state := 3 })
/-- What a line is answered. -/
noncomputable def cmdA (s : Ses) (x : List UInt8) : List UInt8 × Ses :=
  if (cmdP x).2.2.2 = 500 then ([53, 48, 48, 32, 119, 104, 97, 116, 13, 10], s)
  else if (cmdP x).2.2.2 = 501 then ([53, 48, 49, 32, 104, 111, 119, 13, 10], s)
  else if (cmdP x).1 = 1 then ([50, 53, 48, 32] ++ (s.host ++ [13, 10]), s.clear)
  else if (cmdP x).1 = 2 then ([50, 53, 48, 45] ++ (s.host ++ ([13, 10] ++ ([50, 53, 48, 32, 83, 73, 90, 69, 32] ++ (Lib.itoa s.sz ++ [13, 10])))), s.clear)
  else if (cmdP x).1 = 3 then (if s.state ≠ 1 then ([53, 48, 51, 32, 119, 104, 101, 110, 13, 10], s) else if (cmdP x).2.2.1 > s.sz then ([53, 53, 50, 32, 115, 105, 122, 101, 13, 10], s) else ([50, 53, 48, 32, 111, 107, 13, 10], { s with state := 2, fro := (cmdP x).2.1 }))
  else if (cmdP x).1 = 4 then rcptA s (cmdP x).2.1
  else if (cmdP x).1 = 5 then (if s.state ≠ 3 then ([53, 48, 51, 32, 119, 104, 101, 110, 13, 10], s) else ([51, 53, 52, 32, 103, 111, 13, 10], { s with state := 4 }))
  else if (cmdP x).1 = 9 then ([50, 53, 50, 32, 109, 97, 121, 98, 101, 13, 10], s)
  else if (cmdP x).1 = 8 then ([50, 50, 49, 32, 98, 121, 101, 13, 10], { s with shut := true })
  else if (cmdP x).1 = 6 then ([50, 53, 48, 32, 111, 107, 13, 10], if s.state ≠ 0 then s.clear else s)
  else ([50, 53, 48, 32, 111, 107, 13, 10], s)
/-- A message off the wire. -/
def scanS (b : List UInt8) : Option (List UInt8 × List UInt8) := match h : crlfAt b with
  | none => none
  | some (x, y) => if x = [46] then some ([], y) else (scanS y).map fun p => ((if x.head? = some 46 then x.drop 1 else x) ++ (13 :: 10 :: p.1), p.2)
termination_by b.length
decreasing_by have := crlfAt_len h; omega
theorem scanS_none {b : List UInt8} (h : crlfAt b = none) : scanS b = none := by
  rw [scanS]; split
  · rfl
  · rename_i x y h2; rw [h] at h2; simp at h2
theorem scanS_some {b x y : List UInt8} (h : crlfAt b = some (x, y)) : scanS b = if x = [46] then some ([], y) else (scanS y).map fun p => ((if x.head? = some 46 then x.drop 1 else x) ++ (13 :: 10 :: p.1), p.2) := by
  conv => lhs; rw [scanS]
  split
  · rename_i h2; rw [h] at h2; simp at h2
  · rename_i x' y' h2
    rw [h] at h2
    simp only [Option.some.injEq, Prod.mk.injEq] at h2
    rw [h2.1, h2.2]
theorem scanS_len {b o r : List UInt8} (h : scanS b = some (o, r)) : r.length + 3 ≤ b.length ∧ o.length + r.length ≤ b.length := by
  induction hn : b.length using Nat.strongRecOn generalizing b o with
  | _ n ih =>
    cases hc : crlfAt b with
    | none => rw [scanS_none hc] at h; simp at h
    | some p =>
      obtain ⟨x, y⟩ := p
      have hl := crlfAt_len hc
      rw [scanS_some hc] at h
      by_cases hx : x = [46]
      · rw [if_pos hx] at h
        simp only [Option.some.injEq, Prod.mk.injEq] at h
        obtain ⟨rfl, rfl⟩ := h
        subst hx
        simp only [List.length_cons, List.length_nil] at hl ⊢
        omega
      · rw [if_neg hx] at h
        cases hs : scanS y with
        | none => rw [hs] at h; simp at h
        | some q =>
          obtain ⟨o2, r2⟩ := q
          rw [hs] at h
          simp only [Option.map_some, Option.some.injEq, Prod.mk.injEq] at h
          obtain ⟨rfl, rfl⟩ := h
          have := ih y.length (by omega) hs rfl
          refine ⟨by omega, ?_⟩
          have h3 : (if x.head? = some 46 then x.drop 1 else x).length ≤ x.length := by split <;> simp
          simp only [List.length_append, List.length_cons]
          omega
/-- One step of a session; all of them. -/
noncomputable def stepO (s : Ses) : Option (List UInt8 × Ses) :=
  if s.shut = true ∨ s.waits = true then none
  else if s.state = 4 then
    match scanS s.kept with
    | none => none
    | some (o, r) => if (o.length : Int) ≤ s.sz then some ([], { s with kept := r, body := o, waits := true }) else some ([53, 53, 50, 32, 115, 105, 122, 101, 13, 10], { s with kept := r }.clear)
  else match crlfAt s.kept with
    | none => none
    | some (x, y) => some (cmdA { s with kept := y } x)
theorem cmdA_keeps (s : Ses) (x : List UInt8) : (cmdA s x).2.kept = s.kept ∧ (cmdA s x).2.told = s.told ∧ (cmdA s x).2.host = s.host ∧ (cmdA s x).2.sz = s.sz ∧ (cmdA s x).2.rc = s.rc := by
  unfold cmdA rcptA
  refine ⟨?_, ?_, ?_, ?_, ?_⟩
  · simp only [apply_ite Prod.snd, apply_ite Ses.kept, Ses.clear, ite_self]
  · simp only [apply_ite Prod.snd, apply_ite Ses.told, Ses.clear, ite_self]
  · simp only [apply_ite Prod.snd, apply_ite Ses.host, Ses.clear, ite_self]
  · simp only [apply_ite Prod.snd, apply_ite Ses.sz, Ses.clear, ite_self]
  · simp only [apply_ite Prod.snd, apply_ite Ses.rc, Ses.clear, ite_self]
theorem stepO_len {s s' : Ses} {o : List UInt8} (h : stepO s = some (o, s')) : s'.kept.length < s.kept.length ∧ s'.told = s.told ∧ s'.host = s.host ∧ s'.sz = s.sz ∧ s'.rc = s.rc := by
  unfold stepO at h
  split at h
  · simp at h
  · split at h
    · split at h
      · simp at h
      · rename_i o2 r hs
        have := scanS_len hs
        split at h
        · simp only [Option.some.injEq, Prod.mk.injEq] at h
          obtain ⟨_, rfl⟩ := h
          exact ⟨by simp only; omega, rfl, rfl, rfl, rfl⟩
        · simp only [Option.some.injEq, Prod.mk.injEq] at h
          obtain ⟨_, rfl⟩ := h
          exact ⟨by simp only [Ses.clear]; omega, rfl, rfl, rfl, rfl⟩
    · split at h
      · simp at h
      · rename_i x y hc
        have := crlfAt_len hc
        simp only [Option.some.injEq] at h
        have k := cmdA_keeps { s with kept := y } x
        rw [h] at k
        simp only at k
        exact ⟨by rw [k.1]; omega, k.2⟩
noncomputable def runO : Nat → Ses → List UInt8 × Ses
  | 0, s => ([], s)
  | n + 1, s => match stepO s with
    | none => ([], s)
    | some p => (p.1 ++ (runO n p.2).1, (runO n p.2).2)
noncomputable def onS (s : Ses) : List UInt8 × Ses := runO (s.kept.length + 1) s
theorem runO_more : ∀ (n m : Nat) (s : Ses), s.kept.length < n → s.kept.length < m → runO n s = runO m s
  | 0, m, s, h, _ => by omega
  | n + 1, 0, s, _, h => by omega
  | n + 1, m + 1, s, h1, h2 => by
    simp only [runO]
    cases hs : stepO s with
    | none => rfl
    | some p =>
      obtain ⟨o, s'⟩ := p
      have := stepO_len hs
      simp only
      rw [runO_more n m s' (by omega) (by omega)]
theorem onS_none {s : Ses} (h : stepO s = none) : onS s = ([], s) := by
  unfold onS; rw [runO, h]
theorem onS_some {s s' : Ses} {o : List UInt8} (h : stepO s = some (o, s')) : onS s = (o ++ (onS s').1, (onS s').2) := by
  have := stepO_len h
  unfold onS
  rw [runO, h]
  simp only
  rw [runO_more s.kept.length (s'.kept.length + 1) s' (by omega) (by omega)]
theorem onS_keeps (s : Ses) : (onS s).2.kept.length ≤ s.kept.length ∧ (onS s).2.told = s.told ∧ (onS s).2.host = s.host ∧ (onS s).2.sz = s.sz ∧ (onS s).2.rc = s.rc := by
  induction hn : s.kept.length using Nat.strongRecOn generalizing s with
  | _ n ih =>
    cases h : stepO s with
    | none => rw [onS_none h]; exact ⟨Nat.le_of_eq hn, rfl, rfl, rfl, rfl⟩
    | some p =>
      obtain ⟨o, s'⟩ := p
      have h1 := stepO_len h
      have h2 := ih s'.kept.length (by omega) s' rfl
      rw [onS_some h]
      obtain ⟨a1, a2, a3, a4, a5⟩ := h2
      exact ⟨by simp only; omega, by simp only; rw [a2, h1.2.1], by simp only; rw [a3, h1.2.2.1], by simp only; rw [a4, h1.2.2.2.1], by simp only; rw [a5, h1.2.2.2.2]⟩
/-- Bytes come; a message is answered. -/
def hiS (s : Ses) : List UInt8 := if s.told = true then [] else [50, 50, 48, 32] ++ (s.host ++ [32, 114, 101, 97, 100, 121, 13, 10])
noncomputable def feedS (s : Ses) (b : List UInt8) : List UInt8 × Ses :=
  if s.shut = true then ([], s) else (hiS s ++ (onS { s with kept := s.kept ++ b, told := true }).1, (onS { s with kept := s.kept ++ b, told := true }).2)
def replyS (code : Int) : List UInt8 := if code.tdiv 100 = 2 then [50, 53, 48, 32, 111, 107, 13, 10] else if code.tdiv 100 = 4 then [52, 53, 50, 32, 108, 97, 116, 101, 114, 13, 10] else [53, 53, 52, 32, 110, 111, 13, 10]
noncomputable def answerS (s : Ses) (code : Int) : List UInt8 × Ses :=
  if s.shut = true ∨ s.waits = false then ([], s) else (replyS code ++ (onS s.clear).1, (onS s.clear).2)
/-- Whether a message is pending. -/
def Ses.Pends (s : Ses) : Prop := s.shut = false ∧ s.waits = true
def newS (host : List UInt8) (rc sz : Int) : Ses := ⟨host, rc, sz, [], 0, [], [], [], false, false, false⟩

def codeA (l : List Int) (i : Nat) : Int := if l.length = 0 then 250 else l.getD (i % l.length) 0
end Go.Ab.Tryz

end

section
set_option linter.unusedSimpArgs false
set_option linter.unusedVariables false
set_option maxHeartbeats 2000000
set_option maxRecDepth 4000
namespace Go.Ab.Tryz
open Go Go.Ab Go.Proofs

theorem apR_ok {what s x y : List UInt8} (h : apR what s = some (x, y)) : x = [] ∨ MailboxOk x := by
  unfold apR at h
  cases hr : skipR what s with
  | none => rw [hr] at h; simp at h
  | some r =>
    rw [hr] at h
    change pathR r = some (x, y) at h
    unfold pathR at h
    split at h
    · split at h
      · rename_i a b hc
        split at h
        · rename_i ht
          simp only [Option.some.injEq, Prod.mk.injEq] at h
          obtain ⟨rfl, rfl⟩ := h
          exact (tf_iff.1 ht).imp List.length_eq_zero_iff.1 id
        · simp at h
      · simp at h
    · simp at h
theorem cmdP_text {b : List UInt8} (h0 : (cmdP b).2.2.2 ≠ 500) (h1 : (cmdP b).2.2.2 ≠ 501) : ((cmdP b).1 = 3 → (cmdP b).2.1 = [] ∨ MailboxOk (cmdP b).2.1) ∧ ((cmdP b).1 = 4 → MailboxOk (cmdP b).2.1) := by
  unfold cmdP at h0 h1 ⊢
  split
  · rename_i hq
    rw [if_pos hq] at h0 h1
    split
    · rename_i hv
      rw [if_pos hv] at h0
      exact absurd rfl h0
    · rename_i hv
      rw [if_neg hv] at h0 h1
      split
      · rename_i hf
        simp only
        refine ⟨fun e => ?_, fun e => ?_⟩
        · rw [e] at hf ⊢
          unfold fillB at hf
          unfold fillT
          simp only [Int.reduceEq, false_or, if_false, if_true, or_self] at hf ⊢
          cases hx : apR [70, 82, 79, 77, 58] (cutB b).2 with
          | none => rw [hx] at hf; simp at hf
          | some q => obtain ⟨x, y⟩ := q; exact apR_ok hx
        · rw [e] at hf ⊢
          unfold fillB at hf
          unfold fillT
          simp only [Int.reduceEq, false_or, if_false, if_true, or_self] at hf ⊢
          cases hx : apR [84, 79, 58] (cutB b).2 with
          | none => rw [hx] at hf; simp at hf
          | some q =>
            obtain ⟨x, y⟩ := q
            rw [hx] at hf
            simp only [Bool.and_eq_true, decide_eq_true_eq] at hf
            exact (apR_ok hx).resolve_left hf.1
      · rename_i hf
        rw [if_neg hf] at h1
        exact absurd rfl h1
  · rename_i hq
    rw [if_neg hq] at h0
    exact absurd rfl h0

/-- What holds of a session. -/
structure Ses.Inv (s : Ses) : Prop where
  fro : s.fro = [] ∨ MailboxOk s.fro
  to : ∀ x ∈ s.to, MailboxOk x
  one : s.to.Pairwise (· ≠ ·)
  few : (s.to.length : Int) ≤ s.rc
  some : s.state = 3 ∨ s.state = 4 → s.to ≠ []
  wait : s.waits = true → s.state = 4 ∧ (s.body.length : Int) ≤ s.sz
  rc : 0 ≤ s.rc
theorem inv_clear {s : Ses} (h : s.Inv) : s.clear.Inv := ⟨.inl rfl, fun x hx => by simp [Ses.clear] at hx, by simp [Ses.clear], by simpa [Ses.clear] using h.rc, fun h => by simp [Ses.clear] at h, fun h => by simp [Ses.clear] at h, h.rc⟩
theorem inv_new (host : List UInt8) {rc sz : Int} (h : 0 ≤ rc) : (newS host rc sz).Inv := ⟨.inl rfl, fun x hx => by simp [newS] at hx, by simp [newS], by simpa [newS] using h, fun h => by simp [newS] at h, fun h => by simp [newS] at h, h⟩
theorem inv_kept {s : Ses} (h : s.Inv) (k : List UInt8) (t : Bool) : ({ s with kept := k, told := t } : Ses).Inv := ⟨h.fro, h.to, h.one, h.few, h.some, h.wait, h.rc⟩
theorem ite_prop {p : Prop} [Decidable p] {α : Type} {P : α → Prop} {a b : α} (ha : p → P a) (hb : ¬ p → P b) : P (if p then a else b) := by
  by_cases h : p
  · rw [if_pos h]; exact ha h
  · rw [if_neg h]; exact hb h
theorem inv_rcpt {s : Ses} (h : s.Inv) (hw : s.waits = false) {t : List UInt8} (ht : MailboxOk t) : (rcptA s t).2.Inv := by
  unfold rcptA
  refine ite_prop (P := fun r : List UInt8 × Ses => r.2.Inv) (fun _ => h) (fun _ => ?_)
  refine ite_prop (P := fun r : List UInt8 × Ses => r.2.Inv) (fun _ => h) (fun hany => ?_)
  refine ite_prop (P := fun r : List UInt8 × Ses => r.2.Inv) (fun _ => h) (fun hrc => ?_)
  refine ⟨h.fro, fun y hy => ?_, ?_, ?_, fun _ => by simp, fun e => by simp only at e; rw [hw] at e; simp at e, h.rc⟩
  · simp only at hy
    rcases List.mem_append.1 hy with e | e
    · exact h.to y e
    · simp only [List.mem_singleton] at e
      rw [e]; exact ht
  · simp only
    rw [List.pairwise_append]
    refine ⟨h.one, by simp, fun a ha b hb => ?_⟩
    simp only [List.mem_singleton] at hb
    subst hb
    intro e
    subst e
    apply hany
    rw [List.any_eq_true]
    exact ⟨a, ha, by simp⟩
  · simp only [List.length_append, List.length_cons, List.length_nil]
    omega
theorem inv_cmd {s : Ses} (h : s.Inv) (hw : s.waits = false) (x : List UInt8) : (cmdA s x).2.Inv := by
  unfold cmdA
  refine ite_prop (P := fun r : List UInt8 × Ses => r.2.Inv) (fun _ => h) (fun h0 => ?_)
  refine ite_prop (P := fun r : List UInt8 × Ses => r.2.Inv) (fun _ => h) (fun h1 => ?_)
  obtain ⟨t1, t2⟩ := cmdP_text h0 h1
  refine ite_prop (P := fun r : List UInt8 × Ses => r.2.Inv) (fun _ => inv_clear h) (fun _ => ?_)
  refine ite_prop (P := fun r : List UInt8 × Ses => r.2.Inv) (fun _ => inv_clear h) (fun _ => ?_)
  refine ite_prop (P := fun r : List UInt8 × Ses => r.2.Inv) (fun hv => ?_) (fun _ => ?_)
  · refine ite_prop (P := fun r : List UInt8 × Ses => r.2.Inv) (fun _ => h) (fun _ => ?_)
    refine ite_prop (P := fun r : List UInt8 × Ses => r.2.Inv) (fun _ => h) (fun _ => ?_)
    exact ⟨t1 hv, h.to, h.one, h.few, fun e => by simp at e, fun e => by simp only at e; rw [hw] at e; simp at e, h.rc⟩
  refine ite_prop (P := fun r : List UInt8 × Ses => r.2.Inv) (fun hv => inv_rcpt h hw (t2 hv)) (fun _ => ?_)
  refine ite_prop (P := fun r : List UInt8 × Ses => r.2.Inv) (fun _ => ?_) (fun _ => ?_)
  · refine ite_prop (P := fun r : List UInt8 × Ses => r.2.Inv) (fun _ => h) (fun hs => ?_)
    simp only [ne_eq, Decidable.not_not] at hs
    exact ⟨h.fro, h.to, h.one, h.few, fun _ => h.some (.inl hs), fun e => by simp only at e; rw [hw] at e; simp at e, h.rc⟩
  refine ite_prop (P := fun r : List UInt8 × Ses => r.2.Inv) (fun _ => h) (fun _ => ?_)
  refine ite_prop (P := fun r : List UInt8 × Ses => r.2.Inv) (fun _ => ⟨h.fro, h.to, h.one, h.few, h.some, h.wait, h.rc⟩) (fun _ => ?_)
  refine ite_prop (P := fun r : List UInt8 × Ses => r.2.Inv) (fun _ => ?_) (fun _ => h)
  exact ite_prop (P := fun r : Ses => r.Inv) (fun _ => inv_clear h) (fun _ => h)
theorem inv_step {s s' : Ses} {o : List UInt8} (h : s.Inv) (hs : stepO s = some (o, s')) : s'.Inv := by
  unfold stepO at hs
  split at hs
  · simp at hs
  · rename_i hn
    simp only [not_or, Bool.not_eq_true] at hn
    split at hs
    · rename_i h4
      split at hs
      · simp at hs
      · rename_i o2 r hsc
        split at hs
        · rename_i hle
          simp only [Option.some.injEq, Prod.mk.injEq] at hs
          obtain ⟨_, rfl⟩ := hs
          exact ⟨h.fro, h.to, h.one, h.few, h.some, fun _ => ⟨h4, hle⟩, h.rc⟩
        · simp only [Option.some.injEq, Prod.mk.injEq] at hs
          obtain ⟨_, rfl⟩ := hs
          exact inv_clear (inv_kept h r s.told)
    · split at hs
      · simp at hs
      · rename_i x y hc
        simp only [Option.some.injEq] at hs
        have := inv_cmd (s := { s with kept := y }) (inv_kept h y s.told) hn.2 x
        rw [hs] at this
        exact this
theorem inv_on (s : Ses) (h : s.Inv) : (onS s).2.Inv := by
  induction hn : s.kept.length using Nat.strongRecOn generalizing s with
  | _ n ih =>
    cases hs : stepO s with
    | none => rw [onS_none hs]; exact h
    | some p =>
      obtain ⟨o, s'⟩ := p
      have h1 := stepO_len hs
      rw [onS_some hs]
      exact ih s'.kept.length (by omega) s' (inv_step h hs) rfl
theorem inv_feed {s : Ses} (h : s.Inv) (b : List UInt8) : (feedS s b).2.Inv ∧ (feedS s b).2.rc = s.rc ∧ (feedS s b).2.sz = s.sz ∧ (feedS s b).2.host = s.host := by
  unfold feedS
  split
  · exact ⟨h, rfl, rfl, rfl⟩
  · have hk := onS_keeps { s with kept := s.kept ++ b, told := true }
    exact ⟨inv_on _ (inv_kept h _ _), hk.2.2.2.2, hk.2.2.2.1, hk.2.2.1⟩
theorem inv_answer {s : Ses} (h : s.Inv) (c : Int) : (answerS s c).2.Inv ∧ (answerS s c).2.rc = s.rc ∧ (answerS s c).2.sz = s.sz ∧ (answerS s c).2.host = s.host := by
  unfold answerS
  split
  · exact ⟨h, rfl, rfl, rfl⟩
  · have hk := onS_keeps s.clear
    exact ⟨inv_on _ (inv_clear h), hk.2.2.2.2, hk.2.2.2.1, hk.2.2.1⟩
end Go.Ab.Tryz

end
