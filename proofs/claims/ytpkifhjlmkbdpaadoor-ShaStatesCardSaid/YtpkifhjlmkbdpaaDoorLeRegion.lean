/- Soundness of one operation within a region, and of a region whose order is the text's. -/
import Derived.Test.YtpkifhjlmkbdpaaDoorLeCall
set_option linter.unusedVariables false
set_option linter.unusedSimpArgs false
namespace Go.LE
variable {P : Program} {R : Imm} {p : Places} {gl : Nat → Option Cells} {H : Heap} {w : World} {E : Env}

theorem callOp_plain (hE : CalOk P E) {base : Nat} {g : FuncId} {args : List LV} {r : Out} (hc : callOp E H base g args = some r) : Plain P g := by
  unfold callOp at hc
  split at hc
  · cases hc
  · simp only at hc
    split at hc
    · cases hc
    · split at hc
      · cases hc
      · rename_i res hcal
        exact (hE g _ _ res hcal).1

/-- any operation -/
theorem op_ok (hE : CalOk P E) (hg : Globs E.gl R) (hs : Sim R p H w) {base : Nat} (hn : ∀ k, p (base, k) = none) {tm : List LV} {a : Act} (ht : Rep R p tm a.tmps.toList) {o : Oper} {lo : LOp} {r : Out}
    (hc : compOp P o.op = some lo) (hr : opRes E tm H base lo = some r) : OpOk P R p H w base o a r := by
  have hX : ∀ x, Rep1 R p (evX E.gl tm (compX x)) (a.eval x) := evX_rep hg ht
  unfold opRes at hr
  split at hr
  · rename_i z hz
    obtain rfl := Option.some.inj hr
    exact (Runs.pure hs (pure_sound hX hc hz)).ok
  · by_cases hcall : ∃ f as, lo = .call f as
    · obtain ⟨f, as, rfl⟩ := hcall
      obtain ⟨dst, op, type, pos, after, guard⟩ := o
      simp only at hc
      have hop : ∃ f' args ts, op = .call ⟨.value f', args, ts⟩ ∧ f = compX f' ∧ as = args.toList.map compX := by
        cases op <;> simp only [compOp] at hc
        case call c =>
          obtain ⟨callee, args, argTypes⟩ := c
          simp only [compCall] at hc
          split at hc
          · injection hc with hc; injection hc with h1 h2; exact ⟨_, _, _, rfl, h1.symm, h2.symm⟩
          · cases hc
          · split at hc <;> (try cases hc)
            · split at hc <;> (try cases hc)
              split at hc <;> cases hc
            · split at hc <;> (try cases hc)
              split at hc
              · split at hc <;> cases hc
              · cases hc
            · split at hc
              · split at hc
                · split at hc <;> cases hc
                · cases hc
              · cases hc
        all_goals first
          | cases hc
          | (injection hc with hc; cases hc)
          | (simp only [Option.map_eq_some_iff] at hc; obtain ⟨_, _, hc⟩ := hc; cases hc)
          | (exfalso; revert hc; repeat' split
             all_goals (intro hc; first | cases hc | (injection hc with hc; cases hc) | (simp [Option.map_eq_some_iff, Option.bind_eq_some_iff] at hc)))
      obtain ⟨f', args, ts, rfl, rfl, rfl⟩ := hop
      simp only [heapOp] at hr
      split at hr
      · rename_i g as' bs' he
        intro K Q hK
        have hf := hX f'
        rw [he] at hf
        generalize hy : a.eval f' = y at hf
        cases hf with
        | @fn _ _ av _ bv _ _ h1 h2 _ =>
          obtain ⟨fn, hfn, hname, hbody⟩ := callOp_plain hE hr
          have hvals : Rep R p (as' ++ (args.toList.map compX).map (evX E.gl tm) ++ bs') (av ++ args.toList.map a.eval ++ bv) := (h1.append (fnargs hX args.toList)).append h2
          unfold Oper.wp
          have hrun : (execOp a.eval ⟨dst, .call ⟨.value f', args, ts⟩, type, pos, after, guard⟩).run P w = .ok (.enter g (av ++ args.toList.map a.eval ++ bv).toArray) w := by
            simp only [execOp, resolve, hy, Deferred.ofValue, pure_bind, invoke, callFunc, Sem.run_bind, run_program, Result.andThen_ok, hfn, hname, Bool.false_eq_true, if_false, hbody, Sem.run_pure]
            congr 2
            apply Array.ext'
            simp
          rw [hrun, Oper.upon_enter]
          refine (call_ok (K := fun v w' => K (a.put dst v) w') hE hg hs hn hvals hr hK).mono ?_
          rintro e w' ⟨v, rfl, h⟩
          exact h
      · cases hr
    · exact (heap_sound hs (hn 0) hX hc (fun f as e => hcall ⟨f, as, e⟩) hr).ok

/-- what is known behind some of a region's operations -/
structure Aft (R : Imm) (p : Places) (H : Heap) (w : World) (a : Act) (lim : Nat) (tm : List LV) (H' : Heap) (R' : Imm) (p' : Places) (a' : Act) (w' : World) : Prop where
  rep : Rep R' p' tm a'.tmps.toList
  sim : Sim R' p' H' w'
  ext : Ext R p H w R' p' H' w'
  mono : ∀ n x, p n = some x → p' n = some x
  fresh : ∀ n x, p' n = some x → p n = some x ∨ lim ≤ n.1
  defers : a'.defers = a.defers

theorem put_rep {tm : List LV} {a : Act} {dst : Option Nat} {x : LV} {v : Value} (h : Rep R p tm a.tmps.toList) (hv : Rep1 R p x v) : Rep R p (put tm dst x) (a.put dst v).tmps.toList := by
  cases dst with
  | none => exact h
  | some d => simpa [put, Act.put] using h.set d hv

theorem wanted_rep {ops : Array Oper} {o : Oper} {g : Option (Nat × Bool)} {tm : List LV} {a : Act} {b : Bool} (ht : Rep R p tm a.tmps.toList) (hg : guardSlot ops o = some g) (hw : wanted g tm = some b) :
    Region.wanted o (yielded ops a.tmps) = b := by
  unfold guardSlot at hg
  unfold Region.wanted
  split at hg
  · rename_i h0
    obtain rfl := Option.some.inj hg
    simp [wanted] at hw
    rw [h0]; exact hw.symm
  · rename_i j want h0
    rw [h0]
    simp only
    split at hg
    · rename_i t htt
      obtain rfl := Option.some.inj hg
      simp only [wanted] at hw
      have hy : ∀ v, a.tmps[t]? = some v → yielded ops a.tmps j = (match v with | .bool b => some b | _ => none) := by
        intro v hv
        unfold yielded
        rw [htt]
        simp only [Option.bind_some, hv]
        cases v <;> rfl
      cases hq : tm[t]? with
      | none => simp [List.getD, hq] at hw
      | some x =>
        obtain ⟨v, hv, hr⟩ := ht.get hq
        have hv : a.tmps[t]? = some v := by simpa using hv
        rw [hy v hv]
        simp only [List.getD, hq, Option.getD_some] at hw
        split at hw
        · cases hr
          simp at hw
          simp [← hw]
        · rename_i z hz
          cases hr
          simp at hw
          subst hw
          cases v <;> simp
          exact absurd rfl (hz _)
        · cases hw
    · cases hg


theorem aft_put {a : Act} {lim : Nat} {tm : List LV} {H' : Heap} {R' : Imm} {p' : Places} {a' : Act} {w' : World} (h : Aft R p H w a lim tm H' R' p' a' w') {dst : Option Nat} :
    Aft R p H w a lim (put tm dst (.v (.tuple #[]))) H' R' p' (a'.put dst undef) w' :=
  ⟨put_rep h.rep (.v .nil), h.sim, h.ext, h.mono, h.fresh, by cases dst <;> exact h.defers⟩

theorem put_defers {a : Act} {dst : Option Nat} {v : Value} : (a.put dst v).defers = a.defers := by cases dst <;> rfl

theorem compOper_spec {ops : Array Oper} {draw : Bool} {as : List Nat} {i : Nat} {o : Oper} {lo : LOper} (h : compOper P ops draw as i o = some lo) :
    compOp P o.op = some lo.op ∧ guardSlot ops o = some lo.guard ∧ lo.dst = o.dst ∧ (lo.ord = none ∨ (draw = true ∧ heapy lo.op = true ∧ lo.ord = some (as.getD i 0))) ∧ (lo.ord = none → draw = false ∨ heapy lo.op = false) := by
  unfold compOper at h
  split at h
  · rename_i x g h1 h2
    obtain rfl := Option.some.inj h
    refine ⟨h1, h2, rfl, ?_, ?_⟩
    · cases draw <;> cases heapy x <;> simp
    · cases draw <;> cases heapy x <;> simp
  · cases h

/-- one operation, in the order of the text -/
theorem oper_seq (hE : CalOk P E) {ops : Array Oper} {as : List Nat} {base0 i : Nat} {o : Oper} {lo : LOper} {log log' : List Done} {st st' : St} {a a' : Act} {R' : Imm} {p' : Places} {w' : World} {lim : Nat}
    (hg : Globs E.gl R) (hc : compOper P ops false as i o = some lo) (he : evOper E base0 i lo log st = some (st', log')) (h : Aft R p H w a lim st.tm st.H R' p' a' w') (hlim : lim ≤ base0)
    (hf : ∀ n, base0 + i ≤ n.1 → p' n = none) (ho : ops[i]? = some o) {K : Act → World → Prop} {Q : Exit → Act → World → Prop}
    (hK : ∀ R'' p'' a'' w'', Aft R p H w a lim st'.tm st'.H R'' p'' a'' w'' → (∀ n, base0 + (i + 1) ≤ n.1 → p'' n = none) → K a'' w'') : wpOp P ops Q i K a' w' := by
  obtain ⟨h1, h2, h3, h4, _⟩ := compOper_spec hc
  have hord : lo.ord = none := by rcases h4 with h4 | ⟨h4, _⟩; exact h4; cases h4
  unfold wpOp
  simp only [ho]
  unfold evOper at he
  cases hw : wanted lo.guard st.tm with
  | none => simp [hw] at he
  | some b =>
    have hwant := wanted_rep h.rep h2 hw
    cases b with
    | false =>
      simp only [hw] at he
      obtain ⟨rfl, rfl⟩ := Prod.mk.inj (Option.some.inj he)
      simp only [hwant, Bool.false_eq_true, if_false]
      rw [← h3]
      exact hK R' p' _ _ (aft_put h) (fun n hn => hf n (by omega))
    | true =>
      simp only [hw, hord] at he
      simp only [hwant, if_true]
      left
      cases hr : opRes E st.tm st.H (base0 + i) lo.op with
      | none => simp [hr] at he
      | some r =>
        simp only [hr] at he
        obtain ⟨rfl, rfl⟩ := Prod.mk.inj (Option.some.inj he)
        have hg' : Globs E.gl R' := fun g xs hx => by obtain ⟨cs, c1, c2⟩ := hg g xs hx; exact ⟨cs, h.ext.imm _ _ c1, c2⟩
        refine op_ok hE hg' h.sim (base := base0 + i) (fun k => hf _ (Nat.le_refl _)) h.rep h1 hr K Q ?_
        intro v w'' R'' p'' q1 q2 q3 q4 q5
        refine hK R'' p'' _ _ ⟨?_, q2, h.ext.trans q3, fun n x hx => q4 _ _ (h.mono _ _ hx), ?_, ?_⟩ ?_
        · rw [h3]
          exact put_rep (h.rep.mono q3.imm q4) q1
        · intro n x hx
          rcases q5 n x hx with c | c
          · exact h.fresh n x c
          · exact .inr (by omega)
        · rw [put_defers]; exact h.defers
        · intro n hn
          cases hp : p'' n with
          | none => rfl
          | some x =>
            rcases q5 n x hp with c | c
            · rw [hf n (by omega)] at c; cases c
            · omega

theorem opers_seq (hE : CalOk P E) {ops : Array Oper} {as : List Nat} {base0 lim : Nat} {a : Act} (hg : Globs E.gl R) (hlim : lim ≤ base0) {Q : Exit → Act → World → Prop} :
    ∀ (os : List Oper) (i : Nat) (los : List LOper) (log : List Done) (st st' : St) (R' : Imm) (p' : Places) (a' : Act) (w' : World), os = ops.toList.drop i → compOpers P ops false as i os = some los →
      evOpers E base0 i los log st = some st' → Aft R p H w a lim st.tm st.H R' p' a' w' → (∀ n, base0 + i ≤ n.1 → p' n = none) →
      (∀ R'' p'' a'' w'', Aft R p H w a lim st'.tm st'.H R'' p'' a'' w'' → (∀ n, base0 + (i + os.length) ≤ n.1 → p'' n = none) → Q .normal a'' w'') →
      wpOps P ops Q (List.range' i os.length) a' w' := by
  intro os
  induction os with
  | nil =>
    intro i los log st st' R' p' a' w' _ hc he h hf hQ
    simp [compOpers] at hc
    subst hc
    simp [evOpers] at he
    subst he
    exact hQ R' p' a' w' h (by simpa using hf)
  | cons o os ih =>
    intro i los log st st' R' p' a' w' hos hc he h hf hQ
    simp only [compOpers] at hc
    split at hc
    · rename_i lo los' h1 h2
      obtain rfl := Option.some.inj hc
      simp only [evOpers] at he
      split at he
      · rename_i st1 log1 he1
        have hi : i < ops.toList.length := by
          rcases Nat.lt_or_ge i ops.toList.length with hlt | hge
          · exact hlt
          · rw [List.drop_eq_nil_of_le hge] at hos; cases hos
        rw [List.drop_eq_getElem_cons hi] at hos
        injection hos with e1 e2
        have ho : ops[i]? = some o := by
          rw [e1]
          have := Array.getElem?_eq_getElem (xs := ops) (i := i) (by simpa using hi)
          rw [this]; rfl
        rw [List.length_cons, List.range'_succ, wpOps_cons]
        refine oper_seq hE hg h1 he1 h hlim hf ho ?_
        intro R'' p'' a'' w'' q1 q2
        refine ih (i + 1) los' log1 st1 st' R'' p'' a'' w'' e2 h2 he q1 q2 ?_
        intro R3 p3 a3 w3 c1 c2
        exact hQ R3 p3 a3 w3 c1 (fun n hn => c2 n (by simp at hn; omega))
      · cases he
    · cases hc

theorem evOpers_np {E : Env} {base0 : Nat} : ∀ (los : List LOper) (i : Nat) (log : List Done) (st st' : St), evOpers E base0 i los log st = some st' → st'.np = st.np ∧ st'.nx = st.nx := by
  intro los
  induction los with
  | nil => intro i log st st' h; simp [evOpers] at h; subst h; exact ⟨rfl, rfl⟩
  | cons lo los ih =>
    intro i log st st' h
    simp only [evOpers] at h
    split at h
    · rename_i st1 log1 he
      obtain ⟨h1, h2⟩ := ih _ _ _ _ h
      have : st1.np = st.np ∧ st1.nx = st.nx := by
        unfold evOper at he
        split at he
        · cases he
        · obtain ⟨rfl, rfl⟩ := Prod.mk.inj (Option.some.inj he); exact ⟨rfl, rfl⟩
        · split at he
          · split at he
            · cases he
            · obtain ⟨rfl, rfl⟩ := Prod.mk.inj (Option.some.inj he); exact ⟨rfl, rfl⟩
          · simp only at he
            split at he
            · cases he
            · split at he
              · obtain ⟨rfl, rfl⟩ := Prod.mk.inj (Option.some.inj he); exact ⟨rfl, rfl⟩
              · cases he
      exact ⟨h1.trans this.1, h2.trans this.2⟩
    · cases h

end Go.LE
