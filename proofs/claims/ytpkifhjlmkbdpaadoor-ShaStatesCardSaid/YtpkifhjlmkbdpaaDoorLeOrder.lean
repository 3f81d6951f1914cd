/- What an operation looks at; which operations stand ahead of it. -/
import Derived.Test.YtpkifhjlmkbdpaaDoorLeRegion
set_option linter.unusedVariables false
set_option linter.unusedSimpArgs false
namespace Go.LE
variable {P : Program} {E : Env}

def atoms : LOp → List LX
  | .mv x | .box x | .ld1 x | .ld _ x | .chk x | .un _ x | .cvt _ x | .s2b x | .b2s x | .cvs x | .arrp _ x | .fa _ x | .fld1 _ x | .fld _ _ x | .ext x _ | .len x | .lenT x => [x]
  | .pick c a b => [c, a, b]
  | .new _ | .lenA _ => []
  | .build _ ps => ps.map fun q => q.2.2
  | .mkrow _ _ ps _ => ps.map fun q => q.2.2
  | .st _ x y | .bin _ _ x y | .mkslice _ _ _ x y | .iaA _ _ x y | .iaS _ x y | .ix1 _ _ x y | .ix _ _ _ x y | .ixT x y | .append _ _ _ x y | .copy _ x y => [x, y]
  | .fn _ a b => a ++ b
  | .slcA _ _ x lo hi mx | .slcS _ x lo hi mx => x :: (lo.toList ++ hi.toList ++ mx.toList)
  | .slcT x lo hi => x :: (lo.toList ++ hi.toList)
  | .call f as => f :: as
  | .mnmx _ as => as

theorem optNat_congr {gl : Nat → Option Cells} {tm tm' : List LV} {d : Nat} {x : Option LX} (h : ∀ y ∈ x.toList, evX gl tm y = evX gl tm' y) : optNat gl tm d x = optNat gl tm' d x := by
  cases x with
  | none => rfl
  | some x => simp only [optNat]; rw [h x (by simp)]

theorem opRes_congr {tm tm' : List LV} {H : Heap} {base : Nat} {op : LOp} (h : ∀ x ∈ atoms op, evX E.gl tm x = evX E.gl tm' x) : opRes E tm H base op = opRes E tm' H base op := by
  have hmap : ∀ l : List LX, (∀ x ∈ l, evX E.gl tm x = evX E.gl tm' x) → l.map (evX E.gl tm) = l.map (evX E.gl tm') := fun l hl => List.map_congr_left hl
  have hps : ∀ ps : List (Nat × Nat × LX), (∀ x ∈ ps.map (fun q => q.2.2), evX E.gl tm x = evX E.gl tm' x) → ps.map (fun q => (q.1, q.2.1, evX E.gl tm q.2.2)) = ps.map (fun q => (q.1, q.2.1, evX E.gl tm' q.2.2)) := by
    intro ps hps
    apply List.map_congr_left
    intro q hq
    rw [hps q.2.2 (List.mem_map.2 ⟨q, hq, rfl⟩)]
  cases op <;> simp only [atoms] at h <;> simp only [opRes, pureOp, heapOp]
  case build z ps => rw [hps ps h]
  case mkrow n z ps l => rw [hps ps h]
  case fn f a b => rw [hmap a fun x hx => h x (by simp [hx]), hmap b fun x hx => h x (by simp [hx])]
  case slcA n s x lo hi mx =>
    rw [h x (by simp), optNat_congr (x := lo) fun y hy => h y (by simp at hy; simp [hy]), optNat_congr (x := hi) fun y hy => h y (by simp at hy; simp [hy]),
      optNat_congr (x := mx) fun y hy => h y (by simp at hy; simp [hy])]
  case slcS s x lo hi mx =>
    have hm : ∀ d, optNat E.gl tm d mx = optNat E.gl tm' d mx := fun d => optNat_congr fun y hy => h y (by simp at hy; simp [hy])
    have hl : ∀ d, optNat E.gl tm d lo = optNat E.gl tm' d lo := fun d => optNat_congr fun y hy => h y (by simp at hy; simp [hy])
    have hh : ∀ d, optNat E.gl tm d hi = optNat E.gl tm' d hi := fun d => optNat_congr fun y hy => h y (by simp at hy; simp [hy])
    simp only [h x (by simp), hl, hh, hm]
  case slcT x lo hi =>
    have hl : ∀ d, optNat E.gl tm d lo = optNat E.gl tm' d lo := fun d => optNat_congr fun y hy => h y (by simp at hy; simp [hy])
    have hh : ∀ d, optNat E.gl tm d hi = optNat E.gl tm' d hi := fun d => optNat_congr fun y hy => h y (by simp at hy; simp [hy])
    simp only [h x (by simp), hl, hh]
  case call f as => rw [h f (by simp), hmap as fun x hx => h x (by simp [hx])]
  case mnmx m as => rw [hmap as h]
  all_goals first
    | rfl
    | (rename_i x y; simp only [h x (by simp), h y (by simp)]; done)
    | (rename_i x; simp only [h x (by simp)]; done)
    | (rename_i x _; simp only [h x (by simp)]; done)
    | (rename_i c a b; simp only [h c (by simp), h a (by simp), h b (by simp)]; done)

theorem compParts_atoms {f : Nat → Option (Nat × Nat)} : ∀ {l : List (Nat × Operand)} {qs : List (Nat × Nat × LX)}, compParts f l = some qs → ∀ x ∈ qs.map (fun q => q.2.2), ∃ y ∈ l.map (·.2), x = compX y := by
  intro l
  induction l with
  | nil => intro qs h; simp [compParts] at h; subst h; simp
  | cons q l ih =>
    obtain ⟨i, y⟩ := q
    intro qs h x hx
    simp only [compParts] at h
    split at h
    · rename_i off n ps h1 h2
      obtain rfl := Option.some.inj h
      simp at hx
      rcases hx with rfl | ⟨a, b, hx⟩
      · exact ⟨y, by simp, rfl⟩
      · obtain ⟨z, hz, e⟩ := ih h2 x (by simp; exact ⟨a, b, hx⟩)
        exact ⟨z, by simp at hz ⊢; exact .inr hz, e⟩
    · cases h

/-- what the reckoner's operation looks at, the machine's does -/
theorem atoms_sub {op : Op} {lo : LOp} (hc : compOp P op = some lo) : ∀ x ∈ atoms lo, ∃ y ∈ op.operands.toList, x = compX y := by
  have hopt : ∀ (z : Option Operand) (x : LX), x ∈ (z.map compX).toList → ∃ y ∈ z.toList, x = compX y := by
    intro z x hx
    cases z with
    | none => simp at hx
    | some z => simp at hx; exact ⟨z, by simp, hx⟩
  cases op <;> simp only [compOp] at hc
  case build t parts =>
    split at hc
    · simp only [Option.bind_eq_some_iff, Option.map_eq_some_iff] at hc
      obtain ⟨_, _, qs, hqs, rfl⟩ := hc
      intro x hx
      obtain ⟨y, hy, e⟩ := compParts_atoms hqs x hx
      exact ⟨y, by simpa [Op.operands] using hy, e⟩
    · simp only [Option.bind_eq_some_iff, Option.map_eq_some_iff] at hc
      obtain ⟨_, _, qs, hqs, rfl⟩ := hc
      intro x hx
      obtain ⟨y, hy, e⟩ := compParts_atoms hqs x hx
      exact ⟨y, by simpa [Op.operands] using hy, e⟩
    · cases hc
  case buildSlice t len parts =>
    split at hc
    · split at hc
      · split at hc
        · simp only [Option.map_eq_some_iff] at hc
          obtain ⟨qs, hqs, rfl⟩ := hc
          intro x hx
          obtain ⟨y, hy, e⟩ := compParts_atoms hqs x hx
          exact ⟨y, by simpa [Op.operands] using hy, e⟩
        · cases hc
      · cases hc
    · cases hc
  case makeFunc f a b =>
    obtain rfl := Option.some.inj hc
    intro x hx
    simp only [atoms, List.mem_append, List.mem_map] at hx
    rcases hx with ⟨y, hy, rfl⟩ | ⟨y, hy, rfl⟩
    · exact ⟨y, by simp [Op.operands]; exact .inl (by simpa using hy), rfl⟩
    · exact ⟨y, by simp [Op.operands]; exact .inr (by simpa using hy), rfl⟩
  case slice t x lo hi mx =>
    have fin : ∀ z ∈ compX x :: ((lo.map compX).toList ++ (hi.map compX).toList ++ (mx.map compX).toList), ∃ y ∈ (Op.slice t x lo hi mx).operands.toList, z = compX y := by
      intro z hz
      simp only [List.mem_cons, List.mem_append] at hz
      rcases hz with rfl | (hz | hz) | hz
      · exact ⟨x, by simp [Op.operands], rfl⟩
      · obtain ⟨y, hy, e⟩ := hopt lo z hz; exact ⟨y, by simp [Op.operands]; simp at hy; simp [hy], e⟩
      · obtain ⟨y, hy, e⟩ := hopt hi z hz; exact ⟨y, by simp [Op.operands]; simp at hy; simp [hy], e⟩
      · obtain ⟨y, hy, e⟩ := hopt mx z hz; exact ⟨y, by simp [Op.operands]; simp at hy; simp [hy], e⟩
    split at hc
    · simp only [Option.map_eq_some_iff] at hc; obtain ⟨_, _, rfl⟩ := hc; exact fin
    · simp only [Option.map_eq_some_iff] at hc; obtain ⟨_, _, rfl⟩ := hc; exact fin
    · split at hc
      · obtain rfl := Option.some.inj hc
        intro z hz
        simp only [atoms, List.mem_cons, List.mem_append] at hz
        refine fin z ?_
        simp only [List.mem_cons, List.mem_append]
        rcases hz with h | h | h <;> simp [h]
      · cases hc
    · split at hc
      · simp only [Option.map_eq_some_iff] at hc; obtain ⟨_, _, rfl⟩ := hc; exact fin
      · cases hc
    · cases hc
  case call c =>
    obtain ⟨callee, args, ts⟩ := c
    simp only [compCall] at hc
    split at hc
    · obtain rfl := Option.some.inj hc
      intro z hz
      simp only [atoms, List.mem_cons, List.mem_map] at hz
      rcases hz with rfl | ⟨y, hy, rfl⟩
      · exact ⟨_, by simp [Op.operands, Call.operands], rfl⟩
      · exact ⟨y, by simp [Op.operands, Call.operands]; exact .inr (by simpa using hy), rfl⟩
    · cases hc
    · split at hc
      · rename_i x t hargs htypes
        split at hc
        · obtain rfl := Option.some.inj hc; intro z hz; simp [atoms] at hz; exact ⟨x, by simp [Op.operands, Call.operands, hargs], hz⟩
        · obtain rfl := Option.some.inj hc; intro z hz; simp [atoms] at hz; exact ⟨x, by simp [Op.operands, Call.operands, hargs], hz⟩
        · obtain rfl := Option.some.inj hc; intro z hz; simp [atoms] at hz
        · split at hc <;> (try cases hc); intro z hz; simp [atoms] at hz
        · cases hc
      · rename_i x y t u hargs htypes
        split at hc
        · cases hc
        · split at hc
          · split at hc
            · obtain rfl := Option.some.inj hc
              intro z hz
              simp only [atoms, List.mem_cons, List.not_mem_nil, or_false] at hz
              rcases hz with rfl | rfl
              · exact ⟨x, by simp [Op.operands, Call.operands, hargs], rfl⟩
              · exact ⟨y, by simp [Op.operands, Call.operands, hargs], rfl⟩
            · cases hc
          · cases hc
        · cases hc
      · rename_i x y t us hargs htypes
        split at hc
        · split at hc
          · split at hc
            · obtain rfl := Option.some.inj hc
              intro z hz
              simp only [atoms, List.mem_cons, List.not_mem_nil, or_false] at hz
              rcases hz with rfl | rfl
              · exact ⟨x, by simp [Op.operands, Call.operands, hargs], rfl⟩
              · exact ⟨y, by simp [Op.operands, Call.operands, hargs], rfl⟩
            · cases hc
          · cases hc
        · cases hc
      · obtain rfl := Option.some.inj hc
        intro z hz
        simp only [atoms, List.mem_map] at hz
        obtain ⟨y, hy, rfl⟩ := hz
        exact ⟨y, by simp [Op.operands, Call.operands]; simpa using hy, rfl⟩
      · obtain rfl := Option.some.inj hc
        intro z hz
        simp only [atoms, List.mem_map] at hz
        obtain ⟨y, hy, rfl⟩ := hz
        exact ⟨y, by simp [Op.operands, Call.operands]; simpa using hy, rfl⟩
      · cases hc
  all_goals
    first
    | (cases hc; done)
    | skip
  all_goals
    (repeat' split at hc)
  all_goals
    first
    | (cases hc; done)
    | (obtain rfl := Option.some.inj hc; intro z hz; simp only [atoms, List.mem_cons, List.not_mem_nil, or_false] at hz <;> first
       | (rcases hz with rfl | rfl | rfl <;> exact ⟨_, by simp [Op.operands], rfl⟩)
       | (rcases hz with rfl | rfl <;> exact ⟨_, by simp [Op.operands], rfl⟩)
       | (subst hz; exact ⟨_, by simp [Op.operands], rfl⟩)
       | exact hz.elim
       | (cases hz; done))
    | (simp only [Option.map_eq_some_iff] at hc; obtain ⟨_, _, rfl⟩ := hc; intro z hz; simp only [atoms, List.mem_cons, List.not_mem_nil, or_false] at hz <;> first
       | (rcases hz with rfl | rfl <;> exact ⟨_, by simp [Op.operands], rfl⟩)
       | (subst hz; exact ⟨_, by simp [Op.operands], rfl⟩)
       | exact hz.elim)

/-- operations that look at no memory do so whatever it is, and write none -/
theorem opRes_light {tm : List LV} {H H' : Heap} {base : Nat} {op : LOp} (h : heapy op = false) : opRes E tm H base op = opRes E tm H' base op := by
  cases op <;> simp only [heapy, reduceCtorEq, Bool.true_eq_false] at h <;> rfl

theorem mods_light {tm : List LV} {H : Heap} {base : Nat} {op : LOp} {r : Out} (h : heapy op = false) (hr : opRes E tm H base op = some r) : r.mods = [] := by
  unfold opRes at hr
  split at hr
  · obtain rfl := Option.some.inj hr; rfl
  · cases op <;> simp only [heapy, reduceCtorEq, Bool.true_eq_false] at h <;> simp only [heapOp, reduceCtorEq] at hr
    all_goals
      (repeat' split at hr)
    all_goals first
      | (cases hr; done)
      | (obtain rfl := Option.some.inj hr; rfl)

/-! ### which stand ahead -/

theorem before1_bit (acc : List Nat) (o : Oper) {m : Nat} (h : (before1 acc o).testBit m = true) : ∃ e ∈ o.after, Region.binds .any e = true ∧ (m = e.on ∨ (acc.getD e.on 0).testBit m = true) := by
  unfold before1 at h
  have key : ∀ (l : List Edge) (s : Nat), (l.foldl (fun s e => if Region.binds .any e then s ||| 2 ^ e.on ||| acc.getD e.on 0 else s) s).testBit m = true →
      s.testBit m = true ∨ ∃ e ∈ l, Region.binds .any e = true ∧ (m = e.on ∨ (acc.getD e.on 0).testBit m = true) := by
    intro l
    induction l with
    | nil => intro s h; exact .inl h
    | cons e l ih =>
      intro s h
      rw [List.foldl_cons] at h
      rcases ih _ h with h1 | ⟨e', he', h1⟩
      · split at h1
        · rename_i hb
          rw [Nat.testBit_or, Nat.testBit_or, Bool.or_eq_true, Bool.or_eq_true, Nat.testBit_two_pow] at h1
          rcases h1 with (h1 | h1) | h1
          · exact .inl h1
          · exact .inr ⟨e, by simp, hb, .inl (by simpa using (of_decide_eq_true h1).symm)⟩
          · exact .inr ⟨e, by simp, hb, .inr h1⟩
        · exact .inl h1
      · exact .inr ⟨e', by simp [he'], h1⟩
  rcases key _ _ h with h1 | ⟨e, he, h1⟩
  · simp at h1
  · exact ⟨e, by simpa using he, h1⟩

theorem aheadsGo_get : ∀ (os : List Oper) (acc : List Nat), (∀ k, k < acc.length → (aheadsGo acc os).getD k 0 = acc.getD k 0) ∧
    (∀ k o, os[k]? = some o → ∃ acc', acc'.length = acc.length + k ∧ (∀ j, j < acc.length + k → acc'.getD j 0 = (aheadsGo acc os).getD j 0) ∧ (aheadsGo acc os).getD (acc.length + k) 0 = before1 acc' o) := by
  intro os
  induction os with
  | nil => intro acc; exact ⟨fun k _ => rfl, fun k o h => by simp at h⟩
  | cons o os ih =>
    intro acc
    obtain ⟨h1, h2⟩ := ih (acc ++ [before1 acc o])
    have hpre : ∀ k, k < acc.length → (acc ++ [before1 acc o]).getD k 0 = acc.getD k 0 := by
      intro k hk
      simp [List.getD, List.getElem?_append_left hk]
    refine ⟨fun k hk => ?_, fun k o' h => ?_⟩
    · simp only [aheadsGo]
      rw [h1 k (by simp; omega), hpre k hk]
    · cases k with
      | zero =>
        simp at h
        subst h
        refine ⟨acc, rfl, fun j hj => ?_, ?_⟩
        · simp only [aheadsGo]
          rw [h1 j (by simp; omega), hpre j (by omega)]
        · simp only [aheadsGo, Nat.add_zero]
          rw [h1 acc.length (by simp)]
          simp [List.getD]
      | succ k =>
        simp at h
        obtain ⟨acc', q1, q2, q3⟩ := h2 k o' h
        simp only [List.length_append, List.length_cons, List.length_nil] at q1 q2 q3
        refine ⟨acc', by omega, fun j hj => ?_, ?_⟩
        · simp only [aheadsGo]; exact q2 j (by omega)
        · simp only [aheadsGo]
          rw [show acc.length + (k + 1) = acc.length + (0 + 1) + k by omega]
          exact q3

/-- with edges that lead back: what stands ahead stands before, and is an edge's end or stands ahead of one -/
theorem aheads_bit {os : List Oper} (hlow : ∀ k o, os[k]? = some o → ∀ e ∈ o.after, Region.binds .any e = true → e.on < k) {i m : Nat} {o : Oper} (ho : os[i]? = some o)
    (h : ((aheads os).getD i 0).testBit m = true) : ∃ e ∈ o.after, Region.binds .any e = true ∧ (m = e.on ∨ ((aheads os).getD e.on 0).testBit m = true) := by
  obtain ⟨acc', q1, q2, q3⟩ := (aheadsGo_get os []).2 i o ho
  simp only [List.length_nil, Nat.zero_add] at q1 q2 q3
  unfold aheads at h ⊢
  rw [q3] at h
  obtain ⟨e, he, hb, hm⟩ := before1_bit acc' o h
  refine ⟨e, he, hb, ?_⟩
  rcases hm with hm | hm
  · exact .inl hm
  · right
    rw [← q2 e.on (hlow i o ho e he hb)]
    exact hm

theorem aheads_lt {os : List Oper} (hlow : ∀ k o, os[k]? = some o → ∀ e ∈ o.after, Region.binds .any e = true → e.on < k) : ∀ (i m : Nat) (o : Oper), os[i]? = some o → ((aheads os).getD i 0).testBit m = true → m < i := by
  intro i
  induction i using Nat.strongRecOn with
  | _ i ih =>
    intro m o ho h
    obtain ⟨e, he, hb, hm⟩ := aheads_bit hlow ho h
    have hlt := hlow i o ho e he hb
    rcases hm with rfl | hm
    · exact hlt
    · have hlen : i < os.length := (List.getElem?_eq_some_iff.1 ho).1
      have := ih e.on hlt m os[e.on] (List.getElem?_eq_getElem (by omega)) hm
      omega

end Go.LE
