/- The abstract view, 18: regions whose order is drawn, where no operation changes memory as it is seen: each operation is looked at in the state that is sure wherever it is drawn. -/
import Derived.Test.YtlcbdgklbjocnaaDoorAb17
import Derived.Orders
set_option linter.unusedVariables false
set_option linter.unusedSimpArgs false
namespace Go.Ab
open Go Go.RowKit

variable {E : Env} {N : Nat} {rd : Option Nat} {md : Nat → Nat} {Q : APost} {a b : AAct} {H : List AO} {g g0 : Ghost} {w : World} {a' : Act}

def edgesOf (o : Oper) : List Nat := (o.after.toList.filter (Region.binds .any)).map (·.on)
def dstOf (ops : Array Oper) (i : Nat) : Option Tmp := (ops[i]?).bind (·.dst)

/-- What is sure of the temporaries when an operation is drawn: 0: what they held before; 1: nothing; j + 2: what operation j gave. -/
def okK (ops : Array Oper) (i : Nat) (o : Oper) (ks : List Nat) : Bool :=
  (List.range ks.length).all fun t => match ks.getD t 1 with
    | 0 => (List.range ops.size).all fun j => dstOf ops j != some t || j == i || ((ops[j]?).map (fun o => (edgesOf o).contains i)).getD false
    | 1 => true
    | j + 2 => (edgesOf o).contains j && dstOf ops j == some t

def applyK : List Nat → List AV → List AV → List AV
  | k :: ks, t :: ts, vals => (match k with | 0 => t | 1 => .top | j + 2 => vals.getD j .top) :: applyK ks ts vals
  | _, _, _ => []

/-- A region's build: each operation waits for earlier ones alone, no two have one temporary. -/
def okR (ops : Array Oper) (n : Nat) : Bool :=
  (List.range ops.size).all fun i => match ops[i]? with
    | none => false
    | some o => (edgesOf o).all (fun j => decide (j < i)) && (match o.dst with | some d => decide (d < n) | none => true) &&
      (List.range ops.size).all fun j => j == i || o.dst.isNone || dstOf ops j != o.dst

def QD (Q : APost) (b : AAct) : APost
  | .panic ch, _, H' => ∀ ts, fgt ts b.tmps → Q (.panic ch) ⟨ts, b.defers⟩ H'
  | _, _, _ => False

/-- One operation, in the state that is sure. -/
def DOp (E : Env) (rd : Option Nat) (md : Nat → Nat) (ops : Array Oper) (Q : APost) (o : Oper) (b : AAct) (H : List AO) (v : AV) : Prop :=
  match guardOk ops b o with
  | some true => Wop E rd md o b H (fun a' H' => a' = b.put o.dst v ∧ H' = H) (QD Q b)
  | some false => v = .tup []
  | none => False

/-- The operations from number i on. -/
def DAll (E : Env) (rd : Option Nat) (md : Nat → Nat) (ops : Array Oper) (Q : APost) (ts0 : List AV) (ds : List ADef) (H : List AO) (vals : List AV) : Nat → List Oper → List (List Nat) → Prop
  | _, [], _ => True
  | i, o :: os, ks :: kss => okK ops i o ks = true ∧ ks.length = ts0.length ∧ DOp E rd md ops Q o ⟨applyK ks ts0 vals, ds⟩ H (vals.getD i .top) ∧ DAll E rd md ops Q ts0 ds H vals (i + 1) os kss
  | _, _ :: _, [] => False

def finL : List Oper → List AV → List AV → List AV
  | o :: os, v :: vs, ts => finL os vs (match o.dst with | some t => ts.set t v | none => ts)
  | _, _, ts => ts

theorem dall_at {ops : Array Oper} {ts0 : List AV} {ds : List ADef} {vals : List AV} : ∀ (l : List Oper) (kss : List (List Nat)) (k : Nat), (∀ i, ops[k + i]? = l[i]?) → DAll E rd md ops Q ts0 ds H vals k l kss → ∀ i o, l[i]? = some o →
    ∃ ks, okK ops (k + i) o ks = true ∧ ks.length = ts0.length ∧ DOp E rd md ops Q o ⟨applyK ks ts0 vals, ds⟩ H (vals.getD (k + i) .top) := by
  intro l
  induction l with
  | nil => intro kss k _ _ i o h; simp at h
  | cons o' rest ih =>
    intro kss k hk h i o hi
    cases kss with
    | nil => exact h.elim
    | cons ks kss =>
      obtain ⟨h1, h2, h3, h4⟩ := h
      cases i with
      | zero => simp at hi; subst hi; exact ⟨ks, h1, h2, h3⟩
      | succ i =>
        have hrest : ∀ i, ops[k + 1 + i]? = rest[i]? := fun i => by have := hk (i + 1); rw [show k + 1 + i = k + (i + 1) by omega, this]; rfl
        have := ih kss (k + 1) hrest h4 i o (by simpa using hi)
        rwa [show k + 1 + i = k + (i + 1) by omega] at this

theorem applyK_get : ∀ (ks : List Nat) (ts vals : List AV), ks.length = ts.length → ∀ t, t < ts.length → (applyK ks ts vals).getD t .top = (match ks.getD t 1 with | 0 => ts.getD t .top | 1 => .top | j + 2 => vals.getD j .top) := by
  intro ks
  induction ks with
  | nil => intro ts vals h t ht; simp at h; omega
  | cons k ks ih =>
    intro ts vals h t ht
    cases ts with
    | nil => simp at ht
    | cons u ts =>
      cases t with
      | zero => simp only [applyK, List.getD_cons_zero]
      | succ t => simp only [applyK, List.getD_cons_succ]; exact ih ts vals (by simpa using h) t (by simpa using ht)

theorem applyK_len : ∀ (ks : List Nat) (ts vals : List AV), ks.length = ts.length → (applyK ks ts vals).length = ts.length := by
  intro ks
  induction ks with
  | nil => intro ts vals h; simp only [List.length_nil] at h; simp [applyK, ← h]
  | cons k ks ih =>
    intro ts vals h
    cases ts with
    | nil => simp at h
    | cons u ts => simp only [applyK, List.length_cons]; rw [ih ts vals (by simpa using h)]

theorem fgt_of : ∀ (xs ys : List AV), xs.length = ys.length → (∀ t, t < xs.length → ys.getD t .top = xs.getD t .top ∨ ys.getD t .top = .top) → fgt xs ys := by
  intro xs
  induction xs with
  | nil => intro ys h _; cases ys with
    | nil => trivial
    | cons => simp at h
  | cons x xs ih => intro ys h k; cases ys with
    | nil => simp at h
    | cons y ys => exact ⟨by simpa using k 0 (by simp), ih ys (by simpa using h) fun t ht => by simpa using k (t + 1) (by simpa using ht)⟩

/-- What holds when some are listed. -/
structure DInv (ops : Array Oper) (ts0 vals : List AV) (ds : List ADef) (listed : Array Bool) (a : AAct) : Prop where
  size : listed.size = ops.size
  down : ∀ i o, ops[i]? = some o → listed.getD i false = true → ∀ j ∈ edgesOf o, listed.getD j false = true
  len : a.tmps.length = ts0.length
  defers : a.defers = ds
  done : ∀ i t, listed.getD i false = true → dstOf ops i = some t → a.tmps.getD t .top = vals.getD i .top
  kept : ∀ t, (∀ i, listed.getD i false = true → dstOf ops i ≠ some t) → a.tmps.getD t .top = ts0.getD t .top

theorem wpIn_frame {F : Fence} {n : Nat} {P : Program} {o : Oper} {next next' : Act → World → Prop} {R R' : Exit → Act → World → Prop} (h : o.wpIn F n P a' w next R) (h1 : ∀ v w2, next (a'.put o.dst v) w2 → next' (a'.put o.dst v) w2)
    (hd : ∀ d v w2, next ({ a' with defers := d :: a'.defers }.put o.dst v) w2 → False)
    (h2 : ∀ ch w2, R (.panic ch) a' w2 → R' (.panic ch) a' w2) (h3 : LetsOut R → LetsOut R') : o.wpIn F n P a' w next' R' := by
  refine ⟨h.1, ?_⟩
  have h := h.2
  revert h
  generalize (o.semAt F.round a'.eval).run P w = r
  intro h
  cases r with
  | ok nx w2 =>
    cases nx <;> first | exact h1 _ _ h | exact h.elim | exact (hd _ _ _ h).elim | skip
    · exact ⟨h.1, CallsIn.mono h.2 fun e w' hh => by cases e <;> first | exact h1 _ _ hh | exact h2 _ _ hh | exact h3 hh⟩
    · exact ⟨h.1, RoundIn.mono h.2 fun e w' hh => by cases e <;> first | exact h1 _ _ hh | exact h2 _ _ hh | exact h3 hh⟩
    · exact ⟨h.1, RowsIn.mono h.2 fun v w' hh => h1 _ _ hh⟩
  | halt hh w2 => cases hh <;> first | exact h2 _ _ h | exact h.elim

theorem DRels.length {x : List ADef} {y : List Deferred} (h : DRels g x y) : x.length = y.length := by
  induction h with
  | nil => rfl
  | cons _ _ ih => simp [ih]

theorem AAct.put_defers (a : AAct) (d : Option Tmp) (v : AV) : (a.put d v).defers = a.defers := by cases d <;> rfl
theorem Act.put_defers' (a : Act) (d : Option Tmp) (v : Value) : (a.put d v).defers = a.defers := by cases d <;> rfl

theorem letsOut_conc {E : Env} {g : Ghost} {Q : APost} (h : LetsOut (Conc E g Q)) : False := by
  obtain ⟨a, w, x, A, H, g2, _, _, _, _, hx⟩ := h
  cases hx

/-- What the one operation gives, taken over to the state that is more. -/
theorem put_rel {g2 : Ghost} {o : Oper} {v : AV} {c : Value} (hfg : a.tmps.length = b.tmps.length) (ha : ARel g2 a a') (hb : ARel g2 (b.put o.dst v) (a'.put o.dst c)) : ARel g2 (a.put o.dst v) (a'.put o.dst c) := by
  cases hd : o.dst with
  | none => exact ha
  | some d =>
    rw [hd] at hb
    refine ⟨?_, ha.2⟩
    show VRels g2 (a.tmps.set d v) (a'.tmps.setIfInBounds d c)
    by_cases h : @LT.lt Nat _ d a.tmps.length
    · refine ha.1.set d ?_
      have := hb.1.2 d
      have e1 : (b.put (some d) v).tmps.getD d .top = v := by
        show (b.tmps.set d v).getD d .top = v
        rw [List.getD_eq_getElem?_getD, List.getElem?_set_self (by omega)]; rfl
      have e2 : (a'.put (some d) c).tmps.getD d undef = c := by
        show (a'.tmps.setIfInBounds d c).getD d undef = c
        rw [Array.getD_eq_getD_getElem?, Array.getElem?_setIfInBounds_self, if_pos (by rw [ha.1.1]; exact h)]; rfl
      rw [e1, e2] at this
      exact this
    · have e1 : a.tmps.set d v = a.tmps := List.set_eq_of_length_le (by omega)
      have e2 : a'.tmps.setIfInBounds d c = a'.tmps := by
        apply Array.ext_getElem?
        intro i
        rw [Array.getElem?_setIfInBounds]
        split
        · rename_i e; subst e; rw [if_neg (by rw [ha.1.1]; exact h), Array.getElem?_eq_none (by rw [ha.1.1]; omega)]
        · rfl
      rw [e1, e2]; exact ha.1

theorem rho_eq (hl : GLe g0 g) (hd : Dom g0 N) (hrd : ∀ l, rd = some l → l < N) : rho g rd = rho g0 rd := by
  cases rd with
  | none => rfl
  | some l =>
    have h := hrd l rfl
    rw [← hd.1] at h
    have e := List.getElem?_eq_getElem h
    show some (g.phi.getD l 0) = some (g0.phi.getD l 0)
    rw [List.getD_eq_getElem?_getD, List.getD_eq_getElem?_getD, e, hl.phi _ _ e]

/-- An operation that goes well in a state that is less, goes well. -/
theorem opok_more {o : Oper} {v : AV} (hrd : ∀ l, rd = some l → l < N) (h : Wop E rd md o b H (fun a' H' => a' = b.put o.dst v ∧ H' = H) (QD Q b)) (hf : fgt a.tmps b.tmps) (hdf : a.defers = b.defers) :
    OpOk E N rd o a H (fun a' H' => a' = a.put o.dst v ∧ H' = H) Q := by
  intro g0 g w a' hd hl hr ha
  have hb : ARel g b a' := ⟨fgt_rels _ _ hf _ ha.1, hdf ▸ ha.2⟩
  have hlen : a.tmps.length = b.tmps.length := by rw [← ha.1.1, hb.1.1]
  have := wop_sound (N := H.length) h g g w a' hr.dom (GLe.refl g) hr hb
  have hrho : fenceOf g rd = fenceOf g0 rd := by unfold fenceOf; rw [rho_eq hl hd hrd]
  rw [hrho] at this
  refine wpIn_frame this ?_ ?_ ?_ ?_
  · rintro c w2 ⟨A, H2, g2, ⟨rfl, rfl⟩, hl2, hr2, ha2⟩
    exact ⟨_, _, g2, ⟨rfl, rfl⟩, hl.trans hl2, hr2, put_rel hlen (ha.mono hl2) ha2⟩
  · rintro d c w2 ⟨A, H2, g2, ⟨rfl, rfl⟩, hl2, hr2, ha2⟩
    have h1 := ha2.2.length
    have h2 := hb.2.length
    rw [AAct.put_defers, Act.put_defers'] at h1
    simp only [List.length_cons] at h1
    omega
  · rintro ch w2 ⟨x, A, H2, g2, hq, hl2, hr2, ha2, hx⟩
    cases hx with
    | panic hp =>
      refine ⟨.panic _, a, H2, g2, ?_, hl.trans hl2, hr2, ha.mono hl2, .panic hp⟩
      have := hq a.tmps hf
      rw [← hdf] at this
      exact this
  · intro h; exact (letsOut_conc h).elim

theorem DInv.forget {ops : Array Oper} {ts0 vals : List AV} {ds : List ADef} {listed : Array Bool} (hi : DInv ops ts0 vals ds listed a) {i : Nat} {o : Oper} (ho : ops[i]? = some o) {ks : List Nat} (hk : okK ops i o ks = true) (hl : ks.length = ts0.length)
    (hun : listed.getD i false = false) (hready : ∀ j ∈ edgesOf o, listed.getD j false = true) : fgt a.tmps (applyK ks ts0 vals) := by
  refine fgt_of _ _ (by rw [hi.len, applyK_len _ _ _ hl]) fun t ht => ?_
  rw [hi.len] at ht
  rw [applyK_get _ _ _ hl t ht]
  have hkt : (match ks.getD t 1 with
    | 0 => (List.range ops.size).all fun j => dstOf ops j != some t || j == i || ((ops[j]?).map (fun o => (edgesOf o).contains i)).getD false
    | 1 => true
    | j + 2 => (edgesOf o).contains j && dstOf ops j == some t) = true := List.all_eq_true.1 hk t (List.mem_range.2 (by omega))
  split at hkt
  · rename_i e
    left
    refine (hi.kept t fun j hj hjd => ?_).symm
    have hjlt : j < ops.size := by
      by_cases h : j < ops.size
      · exact h
      · rw [← hi.size] at h; simp [Array.getD, h] at hj
    have := List.all_eq_true.1 hkt j (List.mem_range.2 hjlt)
    simp only [Bool.or_eq_true, bne_iff_ne, ne_eq, beq_iff_eq] at this
    rcases this with (h | h) | h
    · exact h hjd
    · subst h; rw [hj] at hun; simp at hun
    · cases ho2 : ops[j]? with
      | none => rw [ho2] at h; simp at h
      | some o2 =>
        rw [ho2] at h
        have := hi.down j o2 ho2 hj i (by simpa using h)
        rw [this] at hun; simp at hun
  · right; rfl
  · rename_i j e
    left
    simp only [Bool.and_eq_true, List.contains_eq_mem, decide_eq_true_eq, beq_iff_eq] at hkt
    exact (hi.done j t (hready j hkt.1) hkt.2).symm

theorem DInv.put {ops : Array Oper} {ts0 vals : List AV} {ds : List ADef} {listed : Array Bool} (hR : okR ops ts0.length = true) (hi : DInv ops ts0 vals ds listed a) {i : Nat} {o : Oper} (ho : ops[i]? = some o)
    (hready : ∀ j ∈ edgesOf o, listed.getD j false = true) : DInv ops ts0 vals ds (listed.setIfInBounds i true) (a.put o.dst (vals.getD i .top)) := by
  have hilt : i < ops.size := (Array.getElem?_eq_some_iff.1 ho).1
  have hset : ∀ k, (listed.setIfInBounds i true).getD k false = (if k = i then true else listed.getD k false) := by
    intro k
    rw [Array.getD_eq_getD_getElem?, Array.getD_eq_getD_getElem?, Array.getElem?_setIfInBounds]
    by_cases e : i = k
    · subst e; simp [hi.size, hilt]
    · rw [if_neg e, if_neg (fun h => e h.symm)]
  have hRi := List.all_eq_true.1 hR i (List.mem_range.2 hilt)
  rw [ho] at hRi
  simp only [Bool.and_eq_true] at hRi
  obtain ⟨⟨_, hdn⟩, hdd⟩ := hRi
  have hdi : dstOf ops i = o.dst := by simp [dstOf, ho]
  have other : ∀ j t, j ≠ i → dstOf ops j = some t → o.dst ≠ some t := by
    intro j t hj hjd e
    have hjlt : j < ops.size := by
      unfold dstOf at hjd
      cases h : ops[j]? with
      | none => rw [h] at hjd; simp at hjd
      | some o2 => exact (Array.getElem?_eq_some_iff.1 h).1
    have := List.all_eq_true.1 hdd j (List.mem_range.2 hjlt)
    simp only [Bool.or_eq_true, beq_iff_eq, bne_iff_ne, ne_eq, Option.isNone_iff_eq_none] at this
    rcases this with (h | h) | h
    · exact hj h
    · rw [h] at e; simp at e
    · exact h (by rw [hjd, e])
  have hget : ∀ (v : AV) (t : Nat), (a.put o.dst v).tmps.getD t .top = if o.dst = some t ∧ t < a.tmps.length then v else a.tmps.getD t .top := by
    intro v t
    cases hd : o.dst with
    | none => simp [AAct.put]
    | some d =>
      show (a.tmps.set d v).getD t .top = _
      rw [List.getD_eq_getElem?_getD, List.getD_eq_getElem?_getD, List.getElem?_set]
      by_cases e : d = t
      · subst e
        by_cases h : @LT.lt Nat _ d a.tmps.length
        · simp [h]
        · simp [h]
      · rw [if_neg e, if_neg (fun h => e (by simpa using h.1))]
  refine ⟨by simpa using hi.size, fun k o2 hk hl j hj => ?_, ?_, ?_, fun k t hl hd => ?_, fun t ht => ?_⟩
  · rw [hset] at hl ⊢
    by_cases e : j = i
    · rw [if_pos e]
    · rw [if_neg e]
      by_cases e2 : k = i
      · subst e2; rw [ho] at hk; injection hk with hk; subst hk; exact hready j hj
      · rw [if_neg e2] at hl; exact hi.down k o2 hk hl j hj
  · cases hd : o.dst with
    | none => exact hi.len
    | some d => show (a.tmps.set d _).length = _; rw [List.length_set]; exact hi.len
  · rw [AAct.put_defers]; exact hi.defers
  · rw [hset] at hl
    rw [hget]
    by_cases e : k = i
    · subst e
      rw [hdi] at hd
      rw [hd] at hdn
      simp only [decide_eq_true_eq] at hdn
      rw [if_pos ⟨hd, by rw [hi.len]; exact hdn⟩]
    · rw [if_neg e] at hl
      rw [if_neg (fun h => other k t e hd h.1)]
      exact hi.done k t hl hd
  · rw [hget, if_neg (fun h => ht i (by rw [hset, if_pos rfl]) (by rw [hdi]; exact h.1))]
    refine hi.kept t fun k hk => ht k ?_
    rw [hset]
    by_cases e : k = i
    · rw [if_pos e]
    · rw [if_neg e]; exact hk

def unlisted (ops : Array Oper) (listed : Array Bool) : Nat := ((List.range ops.size).filter fun i => !listed.getD i false).length

/-- Any order. -/
theorem drawn_sound {ops : Array Oper} {ts0 vals : List AV} {ds : List ADef} (hrd : ∀ l, rd = some l → l < N) (hR : okR ops ts0.length = true) (hD : ∀ i o, ops[i]? = some o →
      ∃ ks, okK ops i o ks = true ∧ ks.length = ts0.length ∧ DOp E rd md ops Q o ⟨applyK ks ts0 vals, ds⟩ H (vals.getD i .top))
    (hQ : ∀ a listed, DInv ops ts0 vals ds listed a → (∀ i, i < ops.size → listed.getD i false = true) → Q .normal a H) :
    ∀ (fuel t : Nat) (listed : Array Bool) (a : AAct), DInv ops ts0 vals ds listed a → unlisted ops listed ≤ fuel → WPo E N rd ops Q (Region.linearise.go .any ops fuel t listed []) a H := by
  have hsome : ∀ listed : Array Bool, listed.size = ops.size → Region.ready .any ops listed = [] → ∀ i, i < ops.size → listed.getD i false = true := by
    intro listed hs hnil i
    induction i using Nat.strongRecOn with
    | _ i ih =>
      intro hi
      have ho : ops[i]? = some ops[i] := Array.getElem?_eq_getElem hi
      have hRi := List.all_eq_true.1 hR i (List.mem_range.2 hi)
      rw [ho] at hRi
      simp only [Bool.and_eq_true] at hRi
      have hlow := List.all_eq_true.1 hRi.1.1
      by_cases h : listed.getD i false = true
      · exact h
      · exfalso
        have hmem : i ∈ Region.ready .any ops listed := by
          refine List.mem_filter.2 ⟨List.mem_range.2 hi, ?_⟩
          rw [ho]
          simp only [Option.map_some, Option.getD_some, Bool.and_eq_true, Bool.not_eq_true']
          refine ⟨?_, ?_⟩
          · have : listed.getD i true = listed.getD i false := by
              rw [Array.getD_eq_getD_getElem?, Array.getD_eq_getD_getElem?, Array.getElem?_eq_getElem (by omega)]; rfl
            rw [this]; simpa using h
          · rw [Array.all_eq_true']
            intro e he
            by_cases hb : Region.binds .any e = true
            · have hin : e.on ∈ edgesOf ops[i] := List.mem_map.2 ⟨e, List.mem_filter.2 ⟨by simpa using he, hb⟩, rfl⟩
              have hlt := hlow e.on hin
              simp only [decide_eq_true_eq] at hlt
              rw [ih e.on hlt (by omega)]; simp
            · simp [hb]
        rw [hnil] at hmem; simp at hmem
  intro fuel
  induction fuel with
  | zero =>
    intro t listed a hi hu
    have hall : ∀ i, i < ops.size → listed.getD i false = true := by
      intro i hlt
      by_cases h : listed.getD i false = true
      · exact h
      · have : i ∈ (List.range ops.size).filter fun i => !listed.getD i false := List.mem_filter.2 ⟨List.mem_range.2 hlt, by simpa using h⟩
        have := List.length_pos_of_mem this
        unfold unlisted at hu; omega
    exact wpo_nil (hQ a listed hi hall)
  | succ fuel ih =>
    intro t listed a hi hu
    simp only [Region.linearise.go]
    change WPo E N rd ops Q (match (Region.ready .any ops listed)[t % (Region.ready .any ops listed).length]? with
      | some i => Region.linearise.go .any ops fuel (t / (Region.ready .any ops listed).length) (listed.setIfInBounds i true) [i]
      | none => [].reverse) a H
    cases hrs : (Region.ready .any ops listed)[t % (Region.ready .any ops listed).length]? with
    | none =>
      have hnil : Region.ready .any ops listed = [] := by
        cases hr : Region.ready .any ops listed with
        | nil => rfl
        | cons x xs =>
          rw [hr] at hrs
          have hlt : t % (x :: xs).length < (x :: xs).length := Nat.mod_lt _ (by simp)
          rw [List.getElem?_eq_getElem hlt] at hrs
          simp at hrs
      exact wpo_nil (hQ a listed hi (hsome listed hi.size hnil))
    | some i =>
      have hmem := List.mem_of_getElem? hrs
      have hm := List.mem_filter.1 hmem
      have hilt := List.mem_range.1 hm.1
      have ho : ops[i]? = some ops[i] := Array.getElem?_eq_getElem hilt
      have hm2 := hm.2
      rw [ho] at hm2
      simp only [Option.map_some, Option.getD_some, Bool.and_eq_true, Bool.not_eq_true'] at hm2
      have hun : listed.getD i false = false := by
        have : listed.getD i true = listed.getD i false := by
          rw [Array.getD_eq_getD_getElem?, Array.getD_eq_getD_getElem?, Array.getElem?_eq_getElem (by rw [hi.size]; exact hilt)]; rfl
        rw [← this]; exact hm2.1
      have hready : ∀ j ∈ edgesOf ops[i], listed.getD j false = true := by
        intro j hj
        obtain ⟨e, he, rfl⟩ := List.mem_map.1 hj
        have he2 := List.mem_filter.1 he
        have := Array.all_eq_true'.1 hm2.2 e (by simpa using he2.1)
        rw [he2.2] at this
        simpa using this
      simp only []
      rw [linearise_go_acc, List.reverse_singleton, List.singleton_append]
      obtain ⟨ks, hk, hkl, hdop⟩ := hD i _ ho
      have hfg := hi.forget ho hk hkl hun hready
      have hi2 := hi.put hR ho hready
      have hu2 : unlisted ops (listed.setIfInBounds i true) ≤ fuel := by
        unfold unlisted at hu ⊢
        have hlt : ((List.range ops.size).filter fun k => !(listed.setIfInBounds i true).getD k false).length < ((List.range ops.size).filter fun k => !listed.getD k false).length := by
          have hsub : ((List.range ops.size).filter fun k => !(listed.setIfInBounds i true).getD k false) = ((List.range ops.size).filter fun k => !listed.getD k false).filter fun k => k != i := by
            rw [List.filter_filter]
            apply List.filter_congr
            intro k hk
            have hk := List.mem_range.1 hk
            rw [Array.getD_eq_getD_getElem?, Array.getD_eq_getD_getElem?, Array.getElem?_setIfInBounds]
            by_cases e : i = k
            · subst e; simp [hi.size, hk]
            · rw [if_neg e]
              have : (k != i) = true := by simpa using fun h => e h.symm
              rw [this]; simp
          rw [hsub]
          exact List.length_filter_lt_length_iff_exists.2 ⟨i, List.mem_filter.2 ⟨List.mem_range.2 hilt, by simpa using hun⟩, by simp⟩
        omega
      have hrest := ih (t / (Region.ready .any ops listed).length) _ _ hi2 hu2
      intro g0 g w a' hd hl hr ha
      simp only [wpOpsIn, ho]
      have hb : ARel g ⟨applyK ks ts0 vals, ds⟩ a' := ⟨fgt_rels _ _ hfg _ ha.1, hi.defers ▸ ha.2⟩
      unfold DOp at hdop
      split at hdop
      · rename_i hg
        rw [guard_sound hb hg, if_pos rfl]
        have := opok_more hrd hdop (a := a) hfg hi.defers g0 g w a' hd hl hr ha
        refine wpIn_frame this ?_ ?_ (fun _ _ h => h) (fun h => h)
        · rintro c w2 ⟨A, H2, g2, ⟨rfl, rfl⟩, hl2, hr2, ha2⟩
          exact hrest g0 g2 w2 _ hd hl2 hr2 ha2
        · rintro d c w2 ⟨A, H2, g2, ⟨rfl, rfl⟩, hl2, hr2, ha2⟩
          have h1 := ha2.2.length
          have h2 := ha.2.length
          rw [AAct.put_defers, Act.put_defers'] at h1
          simp only [List.length_cons] at h1
          omega
      · rename_i hg
        rw [guard_sound hb hg, if_neg (by simp)]
        refine ⟨fun f _ => fence_fn _ _ _, ?_⟩
        rw [hdop] at hrest
        exact hrest g0 g w _ hd hl hr (ha.put _ (undef_rel _))
      · exact hdop.elim

theorem finL_len : ∀ (l : List Oper) (vals ts : List AV), (finL l vals ts).length = ts.length := by
  intro l
  induction l with
  | nil => intro vals ts; rfl
  | cons o os ih =>
    intro vals ts
    cases vals with
    | nil => rfl
    | cons v vs =>
      simp only [finL]
      rw [ih]
      split <;> simp

theorem finL_out : ∀ (l : List Oper) (vals ts : List AV) (t : Nat), (∀ (i : Nat) (o : Oper), l[i]? = some o → o.dst ≠ some t) → (finL l vals ts).getD t .top = ts.getD t .top := by
  intro l
  induction l with
  | nil => intro vals ts t _; rfl
  | cons o os ih =>
    intro vals ts t h
    cases vals with
    | nil => rfl
    | cons v vs =>
      simp only [finL]
      rw [ih vs _ t (fun i o' hi => h (i + 1) o' (by simpa using hi))]
      have h0 := h 0 o rfl
      split
      · rename_i d hd
        rw [List.getD_eq_getElem?_getD, List.getD_eq_getElem?_getD, List.getElem?_set_ne]
        intro e; exact h0 (by rw [hd, e])
      · rfl

theorem finL_in : ∀ (l : List Oper) (vals ts : List AV) (i t : Nat) (o : Oper), vals.length = l.length → l[i]? = some o → o.dst = some t → t < ts.length → (∀ (j : Nat) (o' : Oper), j ≠ i → l[j]? = some o' → o'.dst ≠ some t) → (finL l vals ts).getD t .top = vals.getD i .top := by
  intro l
  induction l with
  | nil => intro vals ts i t o _ h; simp at h
  | cons o1 os ih =>
    intro vals ts i t o hlen hi hd ht hother
    cases vals with
    | nil => simp at hlen
    | cons v vs =>
      simp only [finL]
      cases i with
      | zero =>
        simp only [List.getElem?_cons_zero, Option.some.injEq] at hi
        subst hi
        rw [hd]
        rw [finL_out os vs _ t (fun j o' hj => hother (j + 1) o' (by omega) (by simpa using hj))]
        simp only [List.getD_cons_zero]
        rw [List.getD_eq_getElem?_getD, List.getElem?_set_self ht]; rfl
      | succ i =>
        simp only [List.getElem?_cons_succ] at hi
        simp only [List.getD_cons_succ]
        refine ih vs _ i t o (by simpa using hlen) hi hd ?_ fun j o' hj hjo => hother (j + 1) o' (by omega) (by simpa using hjo)
        split
        · rw [List.length_set]; exact ht
        · exact ht

/-- **A region whose order is drawn.** -/
theorem wdraw {id : Nat} {l : List Oper} {ts0 vals : List AV} {ds : List ADef} (kss : List (List Nat)) (hrd : ∀ l, rd = some l → l < N) (hR : okR l.toArray ts0.length = true) (hlen : vals.length = l.length)
    (hD : DAll E rd md l.toArray Q ts0 ds H vals 0 l kss) {fin : List AV} (hfin : finL l vals ts0 = fin) (hq : Q .normal ⟨fin, ds⟩ H) : W E N rd md (.region id l.toArray true) Q ⟨ts0, ds⟩ H := by
  intro t
  have hops : ∀ i : Nat, l.toArray[i]? = l[i]? := fun i => by simp
  have key := drawn_sound (E := E) (N := N) (rd := rd) (md := md) (Q := Q) (H := H) (ops := l.toArray) (ts0 := ts0) (vals := vals) (ds := ds) hrd hR ?_ ?_ l.toArray.size t (Array.replicate l.toArray.size false) ⟨ts0, ds⟩ ?_ ?_
  · exact key
  · intro i o hi
    rw [hops] at hi
    have := dall_at (E := E) (rd := rd) (md := md) (Q := Q) (H := H) (ops := l.toArray) l kss 0 (fun i => by simp) hD i o hi
    rwa [Nat.zero_add] at this
  · intro a listed hi hall
    have : a = ⟨fin, ds⟩ := by
      obtain ⟨ts, ds'⟩ := a
      have h1 : ds' = ds := hi.defers
      subst h1
      congr 1
      rw [← hfin]
      have hl : ts.length = ts0.length := hi.len
      apply List.ext_getElem?
      intro t
      by_cases ht : t < ts.length
      · have e1 : ts[t]? = some (ts.getD t .top) := by rw [List.getD_eq_getElem?_getD, List.getElem?_eq_getElem ht]; rfl
        have e2 : (finL l vals ts0)[t]? = some ((finL l vals ts0).getD t .top) := by
          have : t < (finL l vals ts0).length := by rw [finL_len]; omega
          rw [List.getD_eq_getElem?_getD, List.getElem?_eq_getElem this]; rfl
        rw [e1, e2]
        congr 1
        by_cases hex : ∃ (i : Nat) (o : Oper), l[i]? = some o ∧ o.dst = some t
        · obtain ⟨i, o, hi1, hd⟩ := hex
          have hilt : i < l.toArray.size := by simpa using (List.getElem?_eq_some_iff.1 hi1).1
          have hdi : dstOf l.toArray i = some t := by unfold dstOf; rw [hops, hi1]; exact hd
          have h1 := hi.done i t (hall i hilt) hdi
          have hRi := List.all_eq_true.1 hR i (List.mem_range.2 hilt)
          rw [hops, hi1] at hRi
          simp only [Bool.and_eq_true] at hRi
          have h2 := finL_in l vals ts0 i t o hlen hi1 hd (by omega) fun j o' hj hjo hjd => by
            have hjlt : j < l.toArray.size := by simpa using (List.getElem?_eq_some_iff.1 hjo).1
            have := List.all_eq_true.1 hRi.2 j (List.mem_range.2 hjlt)
            have hdj : dstOf l.toArray j = some t := by unfold dstOf; rw [hops, hjo]; exact hjd
            rw [hdj, hd] at this
            simp at this
            exact hj this
          exact h1.trans h2.symm
        · have h1 := hi.kept t fun i hl1 hd => by
            unfold dstOf at hd
            rw [hops] at hd
            cases ho : l[i]? with
            | none => rw [ho] at hd; simp at hd
            | some o => rw [ho] at hd; exact hex ⟨i, o, ho, hd⟩
          have h2 := finL_out l vals ts0 t fun i o hi1 hd => hex ⟨i, o, hi1, hd⟩
          exact h1.trans h2.symm
      · rw [List.getElem?_eq_none (by omega), List.getElem?_eq_none (by rw [finL_len]; omega)]
    rw [this]; exact hq
  · refine ⟨by simp, fun i o hi hl => ?_, rfl, rfl, fun i t hl => ?_, fun t _ => rfl⟩
    · exfalso; rw [Array.getD_eq_getD_getElem?, Array.getElem?_replicate] at hl; split at hl <;> simp at hl
    · exfalso; rw [Array.getD_eq_getD_getElem?, Array.getElem?_replicate] at hl; split at hl <;> simp at hl
  · unfold unlisted
    refine Nat.le_trans (List.length_filter_le _ _) ?_
    simp

theorem dall_nil {ops : Array Oper} {ts0 vals : List AV} {ds : List ADef} {i : Nat} {kss : List (List Nat)} : DAll E rd md ops Q ts0 ds H vals i [] kss := trivial
theorem dall_cons {ops : Array Oper} {ts0 vals : List AV} {ds : List ADef} {i : Nat} {o : Oper} {os : List Oper} {ks : List Nat} {kss : List (List Nat)} (h1 : okK ops i o ks = true) (h2 : ks.length = ts0.length) {b : List AV} (hb : applyK ks ts0 vals = b)
    (h3 : DOp E rd md ops Q o ⟨b, ds⟩ H (vals.getD i .top)) (h4 : DAll E rd md ops Q ts0 ds H vals (i + 1) os kss) : DAll E rd md ops Q ts0 ds H vals i (o :: os) (ks :: kss) := ⟨h1, h2, by rw [hb]; exact h3, h4⟩
theorem dop_pure {ops : Array Oper} {o : Oper} {v : AV} (hg : guardOk ops b o = some true) (hp : pureOp o.op = true) (hv : evPure E b H o = some v) : DOp E rd md ops Q o b H v := by
  simp only [DOp, hg]
  exact wop_pure hp hv ⟨rfl, rfl⟩
theorem dop_heap {ops : Array Oper} {o : Oper} {v : AV} (hg : guardOk ops b o = some true) (hp : heapOp o.op = true) (hv : evHeap E md b H o = some (v, H)) : DOp E rd md ops Q o b H v := by
  simp only [DOp, hg]
  exact wop_heap hp hv ⟨rfl, rfl⟩
theorem dop_convert {ops : Array Oper} {o : Oper} {v : AV} {s d : TypeId} {x : Operand} (hg : guardOk ops b o = some true) (hp : o.op = .convert s d x) (h0 : evPure E b H o = none) (hv : evHeap E md b H o = some (v, H)) : DOp E rd md ops Q o b H v := by
  simp only [DOp, hg]
  exact wop_convert hp h0 hv ⟨rfl, rfl⟩
theorem dop_off {ops : Array Oper} {o : Oper} (hg : guardOk ops b o = some false) : DOp E rd md ops Q o b H (.tup []) := by
  simp only [DOp, hg]
theorem dop_call {ops : Array Oper} {o : Oper} {v : AV} (hg : guardOk ops b o = some true) {c : Call} (ho : o.op = .call c) {f : Operand} (hc : c.callee = .value f) {fid : FuncId} {first cap : List AV} (hf : b.ev E.gl f = .fn fid first cap) {args : List AV} (ha : first ++ evCallArgs b E.gl c ++ cap = args)
    (h : ACall E fid args H (fun x H' => x = .ret v ∧ H' = H)) : DOp E rd md ops Q o b H v := by
  simp only [DOp, hg]
  refine wop_call ho hc hf ha (ACall.mono h ?_)
  rintro x H' ⟨rfl, rfl⟩
  exact ⟨rfl, rfl⟩

/-- A call that only answers. -/
theorem wop_ask {o : Oper} {K : AAct → List AO → Prop} {ts0 : List AV} {ds : List ADef} {c : Call} (ho : o.op = .call c) {f : Operand} (hc : c.callee = .value f) {fid : FuncId} {first cap : List AV} (hf : AAct.ev E.gl ⟨ts0, ds⟩ f = .fn fid first cap) {args : List AV} (ha : first ++ evCallArgs ⟨ts0, ds⟩ E.gl c ++ cap = args)
    {v : AV} (h : ACall E fid args H (fun x H' => x = .ret v ∧ H' = H)) {d : Tmp} (hd : o.dst = some d) {ts : List AV} (hs : ts0.set d v = ts) (hk : K ⟨ts, ds⟩ H) : Wop E rd md o ⟨ts0, ds⟩ H K Q := by
  refine wop_call ho hc hf ha (ACall.mono h ?_)
  rintro x H' ⟨rfl, rfl⟩
  exact onEnd_ret hd hs hk

end Go.Ab
