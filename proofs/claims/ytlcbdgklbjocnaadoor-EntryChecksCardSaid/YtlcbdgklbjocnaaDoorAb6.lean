/- The abstract view, 6: every computing operation is sound. -/
import Derived.Test.YtlcbdgklbjocnaaDoorAb5
set_option linter.unusedVariables false
set_option linter.unusedSimpArgs false
namespace Go.Ab
open Go Go.RowKit

variable {E : Env} {g : Ghost} {H : List AO} {w : World} {a : AAct} {a' : Act}

theorem evField_run {s : TypeId} {f off : Nat} {i : TyI} (h : evField E s f = some (off, i)) :
    ∃ fields fl ft, E.P.underlying s = some (.struct fields) ∧ fields[f]? = some fl ∧ fl.offset = off ∧ fl.type = ft ∧ E.ty ft = some i := by
  unfold evField at h
  split at h
  · rename_i fs x1 x2 x3 hs
    split at h
    · rename_i o ft hf
      cases he : E.ty ft with
      | none => rw [he] at h; simp at h
      | some j =>
        rw [he] at h; simp only [Option.map_some] at h; injection h with h; injection h with h1 h2; subst h1; subst h2
        obtain ⟨d, hd, hu⟩ := und_of hs
        obtain ⟨fields, rfl, hsz, hfl, _⟩ := hu
        have hlt : f < fields.size := by
          rw [hsz]
          exact (List.getElem?_eq_some_iff.1 hf).1
        have h1 := hfl f fields[f] (Array.getElem?_eq_getElem hlt)
        rw [hf] at h1; injection h1 with h1; injection h1 with h1 h2
        exact ⟨fields, fields[f], ft, hd, Array.getElem?_eq_getElem hlt, h1.symm, h2.symm, he⟩
    · simp at h
  · simp at h

theorem row_drop {xs : List AV} {b o : Nat} (h : VRel g (.row xs) (.pointer (some ⟨b, o, none⟩))) (k : Nat) : VRel g (.row (xs.drop k)) (.pointer (some ⟨b, o + k, none⟩)) := by
  cases h with
  | row _ _ _ vs hk hv =>
    refine .row _ b (o + k) (fun i => vs (k + i)) (fun i hi => ?_) fun i => ?_
    · simp at hi; have := hk (k + i) (by omega); rw [← this]; congr 1; omega
    · have := hv (k + i)
      simpa only [List.getD_eq_getElem?_getD, List.getElem?_drop] using this

theorem fieldAddr_sound {s : TypeId} {f off : Nat} {i : TyI} (h : evField E s f = some (off, i)) (h0 : i.size ≠ 0) (b o : Nat) : (Instr.fieldAt s (.pointer (some ⟨b, o, none⟩)) f).run E.P w = .ok (.pointer (some ⟨b, o + off, none⟩)) w := by
  obtain ⟨fields, fl, ft, hd, hfl, rfl, rfl, he⟩ := evField_run h
  simp only [Instr.fieldAt, Sem.run_bind, run_und hd, Result.andThen_ok, hfl, Instr.sureAddr, Sem.run_pure, fieldPlace, sizeOf_run he, Sem.run_ite]
  rw [if_neg h0]
  simp [add_none]

theorem field_sound {s : TypeId} {f off : Nat} {i : TyI} (h : evField E s f = some (off, i)) {xs : List AV} {c : Value} (hx : VRel g (.agg xs) c) (hb : off + i.size ≤ xs.length) : Gives E.P g (Instr.field s c f) w (mkVal i ((xs.drop off).take i.size)) := by
  obtain ⟨fields, fl, ft, hd, hfl, rfl, rfl, he⟩ := evField_run h
  cases hx with
  | agg _ cs hl hv =>
    unfold Gives
    simp only [Instr.field, Sem.run_bind, run_und hd, Result.andThen_ok, hfl, asAgg, Sem.run_pure]
    exact part_agg he hl hv fl.offset hb w

theorem indexAddr_sound {t : TypeId} {x : AV} {c : Value} (hx : VRel g x c) {q : IntKind} {k : Int} {v : AV} (h : evIndexAddr E t x k = some v) : Gives E.P g (Instr.indexAt t c (.int q k)) w v := by
  unfold evIndexAddr at h
  split at h
  · rename_i h0
    split at h
    · rename_i e y1 y2 y3 ht
      obtain ⟨d, hd, hu⟩ := und_of ht
      simp only [URel] at hu; subst hu
      unfold Gives Instr.indexAt
      simp only [asIntOf, Sem.run_bind, Sem.run_pure, Result.andThen_ok, run_und hd]
      split at h
      · rename_i i n xs tok hi
        split at h
        · rename_i hlt; injection h with h; subst h
          cases hx with
          | nsl tok hn => simp at hlt; omega
          | sl _ _ _ b o cap vs hn hk hv htk =>
            simp only [Sem.run_bind, Sem.run_pure, Result.andThen_ok, run_und hd]
            rw [if_pos ⟨h0, by exact_mod_cast hlt⟩]
            simp only [Sem.run_bind, sizeOf_run hi, Result.andThen_ok, Sem.run_pure, add_none]
            exact ⟨_, rfl, row_drop (.row xs b o vs hk hv) _⟩
        · simp at h
      · rename_i i id off n hi
        split at h
        · rename_i hlt; injection h with h; subst h
          cases hx with
          | msl _ _ _ b off' cap hp hn ho =>
            simp only [Sem.run_bind, Sem.run_pure, Result.andThen_ok, run_und hd]
            rw [if_pos ⟨h0, by exact_mod_cast hlt⟩]
            simp only [Sem.run_bind, sizeOf_run hi, Result.andThen_ok, Sem.run_pure, add_none]
            have : off' = off := by rcases ho with ho | ho; · omega
                                    · exact ho
            subst this
            exact ⟨_, rfl, .ref id _ b hp⟩
        · simp at h
      · simp at h
    · rename_i n e y1 y2 y3 ht
      obtain ⟨d, hd, hu⟩ := und_of ht
      simp only [URel] at hu; subst hu
      unfold Gives Instr.indexAt
      simp only [asIntOf, Sem.run_bind, Sem.run_pure, Result.andThen_ok, run_und hd]
      split at h
      · rename_i i xs hi
        split at h
        · rename_i hlt; injection h with h; subst h
          cases hx with
          | row _ b o vs hk hv =>
            simp only [Instr.sureAddr, Sem.run_bind, Sem.run_pure, Result.andThen_ok, run_und hd]
            rw [if_pos ⟨h0, by exact_mod_cast hlt⟩]
            simp only [Sem.run_bind, sizeOf_run hi, Result.andThen_ok, Sem.run_pure, add_none]
            exact ⟨_, rfl, row_drop (.row xs b o vs hk hv) _⟩
        · simp at h
      · rename_i i id off hi
        split at h
        · rename_i hlt; injection h with h; subst h
          cases hx with
          | ref _ _ b hp =>
            simp only [Instr.sureAddr, Sem.run_bind, Sem.run_pure, Result.andThen_ok, run_und hd]
            rw [if_pos ⟨h0, by exact_mod_cast hlt⟩]
            simp only [Sem.run_bind, sizeOf_run hi, Result.andThen_ok, Sem.run_pure, add_none]
            exact ⟨_, rfl, .ref id _ b hp⟩
        · simp at h
      · simp at h
    · simp at h
  · simp at h

theorem conv_sound (hr : E.Rep g H w) {src dst : TypeId} {x : AV} {c : Value} (hx : VRel g x c) {v : AV} (h : evConv E H src dst x = some v) : Gives E.P g (convert src dst c) w v := by
  unfold evConv at h
  split at h
  · rename_i i j hs hd
    obtain ⟨ds, hds, hus⟩ := und_of hs
    obtain ⟨dd, hdd, hud⟩ := und_of hd
    unfold Gives convert
    simp only [Sem.run_bind, run_und hds, run_und hdd, Result.andThen_ok]
    split at h
    · rename_i k1 k k2 n e1 e2
      rw [e1] at hus; rw [e2] at hud; simp only [URel] at hus hud; subst hus; subst hud
      injection h with h; subst h
      rw [hx.int_inv]
      exact ⟨_, rfl, .int _ _⟩
    · rename_i s e1 e2
      rw [e1] at hus; rw [e2] at hud; simp only [URel] at hus hud; subst hus; subst hud
      injection h with h; subst h
      rw [hx.str_inv]
      exact ⟨_, rfl, .str _ _ (by simp)⟩
    · rename_i e n xs tok e1 e2
      rw [e1] at hus; rw [e2] at hud; simp only [URel] at hus hud; subst hus; subst hud
      split at h
      · rename_i y1 y2 y3 he
        obtain ⟨de, hde, hue⟩ := und_of he
        simp only [URel] at hue; subst hue
        split at h
        · rename_i hlen
          cases hu : unbytes xs with
          | none => rw [hu] at h; simp at h
          | some s =>
            rw [hu] at h; simp only [Option.map_some] at h; injection h with h; subst h
            cases hx with
            | nsl tok hn =>
              simp only [unbytes] at hu; injection hu with hu; subst hu
              simp only [Sem.run_bind, run_und hde, Result.andThen_ok, Conv.bytesToString]
              exact ⟨_, rfl, .str _ _ rfl⟩
            | sl _ _ _ b o cap vs hn hk hv htk =>
              obtain ⟨ns, h1, h2, h3⟩ := unbytes_rel xs s hu vs (fun i _ => hv i)
              obtain ⟨st, h4, h5⟩ := run_bytes (P := E.P) (w := w) (b := b) (o := o) (ns := ns) (vs := vs) (cap := cap) (fun i hi => hr.know _ _ _ (hk i (by omega))) (fun i hi => h2 i (by omega))
              simp only [Sem.run_bind, run_und hde, Result.andThen_ok]
              rw [show n = ns.length by omega, h4]
              exact ⟨_, rfl, .str _ _ (by rw [h5, h3])⟩
        · simp at h
      · simp at h
    · rename_i e id off n e1 e2
      rw [e1] at hus; rw [e2] at hud; simp only [URel] at hus hud; subst hus; subst hud
      split at h
      · rename_i y1 y2 y3 xs he hrd
        obtain ⟨de, hde, hue⟩ := und_of he
        simp only [URel] at hue; subst hue
        cases hu : unbytes xs with
        | none => rw [hu] at h; simp at h
        | some s =>
          rw [hu] at h; simp only [Option.map_some] at h; injection h with h; subst h
          cases hx with
          | msl _ _ _ b off' cap hp hn ho =>
            obtain ⟨b2, o2, vs, hc, hl, hcs, hvs⟩ := readCells_rel hr hrd (.ref id off b hp)
            injection hc with hc; injection hc with hc; injection hc with hc1 hc2 _; subst hc1; subst hc2
            obtain ⟨ns, h1, h2, h3⟩ := unbytes_rel xs s hu vs (fun i _ => hvs i)
            obtain ⟨st, h4, h5⟩ := run_bytes (P := E.P) (w := w) (b := b) (o := off') (ns := ns) (vs := vs) (cap := cap)
              (fun i hi => by
                rcases ho with ho | ho
                · omega
                · subst ho; exact hcs i (by omega)) (fun i hi => h2 i (by omega))
            simp only [Sem.run_bind, run_und hde, Result.andThen_ok]
            rw [show n = ns.length by omega, h4]
            exact ⟨_, rfl, .str _ _ (by rw [h5, h3])⟩
      · simp at h
    · simp at h
  · simp at h

theorem un_sound {op : UnOp} {x : AV} {c : Value} (hx : VRel g x c) {v : AV} (h : evUn op x = some v) : Gives E.P g (Op.unary op c) w v := by
  unfold evUn at h
  split at h
  · injection h with h; subst h; rw [hx.bool_inv]; exact ⟨_, rfl, .bool _⟩
  · injection h with h; subst h; rw [hx.int_inv]; exact ⟨_, rfl, .int _ _⟩
  · rename_i k n
    injection h with h; subst h; rw [hx.int_inv]; exact ⟨.int k (bitsOf .xor k (if k.signed then -1 else k.max) n), by simp [Op.unary, Op.intBits, bitsOf], .int _ _⟩
  · simp at h

theorem eqGuard_ok {op : BinOp} {t : TypeId} {x y : Operand} {u v : Value} (h : (isConstOp x || isConstOp y) = true ∨ ¬ (u = .nilIface ∧ v = .nilIface)) (hagg : ∀ cs, u ≠ .agg cs) : (eqGuard op t x y u v).run E.P w = .ok () w := by
  unfold eqGuard
  cases op <;> first | rfl | skip
  all_goals
    simp only [Bool.not_true, Bool.false_eq_true, if_false]
    split
    · rcases h with h | h
      · cases x <;> cases y <;> first | rfl | (simp [isConstOp] at h)
      · exact absurd ⟨rfl, rfl⟩ h
    · exact absurd rfl (hagg _)
    · rfl

theorem eqIn_sound (dep : Nat) {t : TypeId} {i : TyI} (ht : E.ty t = some i) {x y : AV} {u v : Value} (hx : VRel g x u) (hy : VRel g y v) {b : Bool} (h : evEq i.u x y = some b) : (Op.equalIn (dep + 1) t u v).run E.P w = .ok b w ∧ (∀ cs, u ≠ .agg cs) := by
  obtain ⟨d, hd, hu⟩ := und_of ht
  simp only [Op.equalIn, Sem.run_bind, run_und hd, Result.andThen_ok]
  obtain ⟨iu, s1, s2, s3⟩ := i
  simp only at h hu
  cases iu
  case bool =>
    simp only [URel] at hu; subst hu
    cases x <;> cases y <;> simp only [evEq] at h <;> try (simp at h; done)
    injection h with h; subst h
    rw [hx.bool_inv, hy.bool_inv]
    refine ⟨?_, fun _ hh => by cases hh⟩
    simp only [Sem.run_pure]; congr 1
  case ptr =>
    obtain ⟨e, rfl⟩ := hu
    cases x <;> cases y <;> simp only [evEq] at h <;> try (simp at h; done)
    all_goals (injection h with h; subst h; cases hx; cases hy; exact ⟨rfl, fun _ hh => by cases hh⟩)
  case iface any =>
    obtain ⟨ms, rfl, _⟩ := hu
    cases x <;> cases y <;> simp only [evEq] at h <;> try (simp at h; done)
    all_goals (injection h with h; subst h; cases hx; cases hy; exact ⟨rfl, fun _ hh => by cases hh⟩)
  case func =>
    obtain ⟨ps, rs, vv, rfl⟩ := hu
    cases x <;> cases y <;> simp only [evEq] at h <;> try (simp at h; done)
    all_goals (injection h with h; subst h; cases hx; cases hy; exact ⟨rfl, fun _ hh => by cases hh⟩)
  case map k e =>
    simp only [URel] at hu; subst hu
    cases x <;> cases y <;> simp only [evEq] at h <;> try (simp at h; done)
    all_goals (injection h with h; subst h; cases hx; cases hy; exact ⟨rfl, fun _ hh => by cases hh⟩)
  all_goals (unfold evEq at h; split at h <;> first | (simp at h; done) | (rename_i hq; cases hq))

theorem eq_sound {t : TypeId} {i : TyI} (ht : E.ty t = some i) {x y : AV} {u v : Value} (hx : VRel g x u) (hy : VRel g y v) {b : Bool} (h : evEq i.u x y = some b) : (Op.equal t u v).run E.P w = .ok b w ∧ (∀ cs, u ≠ .agg cs) :=
  eqIn_sound 9999 ht hx hy h

theorem arith_sound {op : BinOp} {t : TypeId} {k : IntKind} {m : Int} {k' : IntKind} {n : Int} {r : AV} (h : evArith op k m k' n = some r) : Gives E.P g (binOp op t (.int k m) (.int k' n)) w r := by
  have other : (if k = k' then evInt op k m n else none) = some r → Gives E.P g (binOp op t (.int k m) (.int k' n)) w r := by
    clear h
    intro h'
    by_cases hk : k = k'
    · subst hk
      rw [if_pos rfl] at h'
      obtain ⟨c, h1, h2⟩ := run_intOp E.P w op t k m n h'
      exact ⟨c, h1, h2 g⟩
    · rw [if_neg hk] at h'; simp at h'
  cases op <;> first
    | exact other h
    | (simp only [evArith] at h
       split at h
       · simp at h
       · rename_i hn; injection h with h; subst h
         exact ⟨_, by simp [binOp, Op.shift, hn], .int _ _⟩)

theorem binEq_run {t : TypeId} {i : UT} {x y : AV} {u v : Value} (hx : VRel g x u) (hy : VRel g y v) {b : Bool} (h : evEq i x y = some b) :
    binOp .eql t u v = (do pure (.bool (← Op.equal t u v))) ∧ binOp .neq t u v = (do pure (.bool (!(← Op.equal t u v)))) := by
  unfold evEq at h
  split at h <;> first | (simp at h; done) | skip
  all_goals (cases hx; cases hy; exact ⟨rfl, rfl⟩)

theorem nili_inv {x : AV} {u : Value} (hx : VRel g x u) (hu : u = .nilIface) (h : x ≠ .top) : x.isNili = true := by
  subst hu; cases hx <;> first | rfl | exact absurd rfl h

theorem cmp_sound {op : BinOp} {t : TypeId} {ox oy : Operand} {x y : AV} {u v : Value} (hx : VRel g x u) (hy : VRel g y v) {b : Bool} (h : evCmp E t ox oy x y = some b) :
    (eqGuard op t ox oy u v).run E.P w = .ok () w ∧ (Op.equal t u v).run E.P w = .ok b w ∧ binOp .eql t u v = (do pure (.bool (← Op.equal t u v))) ∧ binOp .neq t u v = (do pure (.bool (!(← Op.equal t u v)))) := by
  unfold evCmp at h
  split at h
  · simp at h
  · rename_i i ht
    split at h
    · rename_i hc
      have he := eq_sound (w := w) ht hx hy h
      refine ⟨eqGuard_ok ?_ he.2, he.1, binEq_run hx hy h⟩
      rw [Bool.or_eq_true] at hc
      rcases hc with hc | hc
      · exact .inl hc
      · right
        rintro ⟨rfl, rfl⟩
        have h1 : x ≠ .top := by rintro rfl; unfold evEq at h; split at h <;> simp_all
        have h2 : y ≠ .top := by rintro rfl; unfold evEq at h; split at h <;> simp_all
        rw [nili_inv hx rfl h1, nili_inv hy rfl h2] at hc
        simp at hc
    · simp at h

theorem bin_sound {op : BinOp} {t : TypeId} {ox oy : Operand} {x y : AV} {u v : Value} (hx : VRel g x u) (hy : VRel g y v) {r : AV} (h : evBin E op t ox oy x y = some r) :
    Gives E.P g (do eqGuard op t ox oy u v; binOp op t u v) w r := by
  unfold Gives
  rw [Sem.run_bind]
  have triv : ∀ (u v : Value), (∀ cs, u ≠ .agg cs) → u ≠ .nilIface → (eqGuard op t ox oy u v).run E.P w = .ok () w := fun u v h1 h2 => eqGuard_ok (.inr fun h => h2 h.1) h1
  unfold evBin at h
  split at h
  · rename_i k m k' n
    rw [hx.int_inv, hy.int_inv, triv _ _ (fun _ hh => by cases hh) (fun hh => by cases hh), Result.andThen_ok]
    exact arith_sound h
  · rename_i p q
    rw [hx.str_inv, hy.str_inv, triv _ _ (fun _ hh => by cases hh) (fun hh => by cases hh), Result.andThen_ok]
    obtain ⟨c, h1, h2⟩ := run_strOp E.P w op t p q h
    exact ⟨c, h1, h2 g⟩
  · split at h
    · cases hc : evCmp E t ox oy x y with
      | none => rw [hc] at h; simp at h
      | some b =>
        rw [hc] at h; simp only [Option.map_some] at h; injection h with h; subst h
        obtain ⟨h1, h2, h3, h4⟩ := cmp_sound (op := .eql) (w := w) hx hy hc
        rw [h1, Result.andThen_ok, h3, Sem.run_bind, h2]
        exact ⟨_, rfl, .bool _⟩
    · cases hc : evCmp E t ox oy x y with
      | none => rw [hc] at h; simp at h
      | some b =>
        rw [hc] at h; simp only [Option.map_some] at h; injection h with h; subst h
        obtain ⟨h1, h2, h3, h4⟩ := cmp_sound (op := .neq) (w := w) hx hy hc
        rw [h1, Result.andThen_ok, h4, Sem.run_bind, h2]
        exact ⟨_, rfl, .bool _⟩
    · simp at h

end Go.Ab
