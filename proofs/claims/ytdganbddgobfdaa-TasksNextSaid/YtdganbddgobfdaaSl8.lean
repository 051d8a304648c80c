/- A region whose order is drawn, where what turns the world may come in several orders: one walk for each of these. -/
import Derived.Test.YtdganbddgobfdaaSl7
namespace Go.Proofs.Ytdganbddgobfdaa
section
variable {P : Program} {r : Option Nat} {n : Nat} {ops : Array Oper} {l0 ch ea : List Nat} {bf : Nat → Nat → Prop} {Φ : List HP} {D : List Deferred} {K : Exit → Tm → List Deferred → List HP → Prop}
  {w0 w : World} {R : List HP} {listed : Array Bool} {a : Act}
/-- On paper: on to the next operation that turns the world. -/
theorem St.advF : ∀ (cur pend pre : List Nat) (Tc : Tm) (Δ : List HP), St P r n ops l0 ch ea bf Φ D K w0 R listed a w pend cur pre Tc Δ →
    ∃ pend' cur' pre' Tc', St P r n ops l0 ch ea bf Φ D K w0 R listed a w pend' cur' pre' Tc' Δ ∧ (cur' = [] ∨ ∃ c rest, cur' = c :: rest ∧ c ∈ ch) ∧ pend'.length + cur'.length = pend.length + cur.length ∧ cur.filter ch.contains = cur'.filter ch.contains := by
  intro cur
  induction cur with
  | nil => intro pend pre Tc Δ h; exact ⟨pend, [], pre, Tc, h, .inl rfl, rfl, rfl⟩
  | cons i rest ih =>
    intro pend pre Tc Δ h
    by_cases hch : i ∈ ch
    · exact ⟨pend, i :: rest, pre, Tc, h, .inr ⟨i, rest, rfl, hch⟩, rfl, rfl⟩
    · obtain ⟨o, ho, hd, hdr⟩ := h.dr
      have hoi := nthO_ops ho
      have hc : ch.contains i = false := by simpa using hch
      rcases hdr with ⟨_, v, hf, hdr⟩ | ⟨hc', _⟩ | ⟨hc', _⟩
      rotate_left
      · rw [hc] at hc'; cases hc'
      · rw [hc] at hc'; cases hc'
      have hself := selfless h.ok hoi
      have hcut : l0 = (pre ++ [i]) ++ rest := by rw [h.cut]; simp
      have hnd : (pre ++ i :: rest).Nodup := h.cut ▸ h.ok.nodup
      have hipre : i ∉ pre := fun hm => (List.nodup_append.1 hnd).2.2 i hm i (by simp) rfl
      have hip : i ∉ pend := fun hm => hipre (h.ppre i hm)
      have hother : ∀ p ∈ pend, ∀ op, ops[p]? = some op → ∀ e, o.dst = some e → e ∉ op.looksAt ops ∧ op.dst ≠ some e := by
        intro p hp op hop e he
        constructor
        · intro hm
          have hb := h.ok.names p op hop e hm i o hoi he
          obtain ⟨p1, p2, hpp⟩ := List.append_of_mem (h.ppre p hp)
          refine h.ok.deps p1 p (p2 ++ i :: rest) (by rw [h.cut, hpp]; simp) i (by simp) hb
        · intro hde
          have := h.ok.dsts p i op o e hop hoi hde he
          exact hip (this ▸ hp)
      obtain ⟨pend', cur', pre', Tc', h', hh, hl, hfl⟩ := ih (i :: pend) (pre ++ [i]) (putT Tc o.dst v) Δ
        { ok := h.ok, lsz := h.lsz, closed := h.closed, cut := hcut, dr := hdr, size := h.size, defs := h.defs, same := h.same, sat := h.sat
          mem := fun j => by rw [h.mem j]; simp only [List.mem_cons]; exact ⟨fun x => by rcases x with x | x | x <;> simp [x], fun x => by rcases x with (x | x) | x <;> simp [x]⟩
          ppre := fun j hj => by
            rcases List.mem_cons.1 hj with rfl | hj
            · simp
            · exact List.mem_append_left _ (h.ppre j hj)
          pfl := fun j hj => by
            rcases List.mem_cons.1 hj with rfl | hj
            · exact hch
            · exact h.pfl j hj
          pnd := List.nodup_cons.2 ⟨hip, h.pnd⟩
          wt := h.wt.put hd v
          val := fun t u ht hn => by
            cases hdst : o.dst with
            | none => rw [hdst] at ht; exact h.val t u ht fun p hp op hop => hn p (List.mem_cons_of_mem _ hp) op hop
            | some d =>
              have hne : d ≠ t := fun e => hn i (by simp) o hoi (by rw [hdst, e])
              rw [hdst, tget_put_ne hne] at ht
              exact h.val t u ht fun p hp op hop => hn p (List.mem_cons_of_mem _ hp) op hop
          pok := fun p hp => by
            rcases List.mem_cons.1 hp with rfl | hp
            · exact ⟨o, v, pend_of_fok h.ok h.wt hoi hd hself hf⟩
            · obtain ⟨op, vp, hpo⟩ := h.pok p hp
              exact ⟨op, vp, hpo.keep fun e he => hother p hp op hpo.ho e he⟩ }
      exact ⟨pend', cur', pre', Tc', h', hh, (by rw [hl]; simp; omega), (by rw [List.filter_cons, hc]; simpa using hfl)⟩


/-- An order in which the operations may come up. -/
def OrdL (ops : Array Oper) : Array Bool → List Nat → Prop
  | listed, [] => ∀ j, listed.getD j true = true
  | listed, i :: l => i ∈ Region.ready .any ops listed ∧ OrdL ops (listed.setIfInBounds i true) l

theorem drawn_list (hok : DrawOK ops l0 ch ea bf) : ∀ (l : List Nat) (listed : Array Bool) (a : Act) (w : World) (pend cur pre : List Nat) (Tc : Tm) (Δ : List HP),
    St P r n ops l0 ch ea bf Φ D K w0 R listed a w pend cur pre Tc Δ → (cur = [] ∨ ∃ c rest, cur = c :: rest ∧ c ∈ ch) → OrdL ops listed l → l.filter ch.contains = cur.filter ch.contains →
    wpOpsIn (FW r) 0 P ops (post K n w0 R) l a w := by
  intro l
  induction l with
  | nil =>
    intro listed a w pend cur pre Tc Δ h hh hol hchn
    have none : ∀ j, ¬ (j ∈ pend ∨ j ∈ cur) := fun j hj => by
      have := (h.mem j).2 hj
      rw [hol j] at this; cases this
    have e1 : pend = [] := List.eq_nil_iff_forall_not_mem.2 fun j hj => none j (.inl hj)
    have e2 : cur = [] := List.eq_nil_iff_forall_not_mem.2 fun j hj => none j (.inr hj)
    subst e1; subst e2
    exact ⟨h.same, Tc, Φ ++ Δ, h.defs ▸ h.dr, ⟨h.size, fun t v ht => h.val t v ht (fun p hp => by cases hp)⟩, h.sat⟩
  | cons i l ih =>
    intro listed a w pend cur pre Tc Δ h hh hol hchn
    obtain ⟨hi, hol⟩ := hol
    have unl : ∀ j, j ∈ pend ∨ j ∈ cur → listed.getD j true = false := fun j hj => (h.mem j).2 hj
    · obtain ⟨hlf, o, ho, hready⟩ := mem_ready.1 hi
      have hlooks := h.looks ho hready
      have hnos := hok.nosel i o ho
      have hclosed : ∀ (j : Nat) (oj : Oper), ops[j]? = some oj → (listed.setIfInBounds i true).getD j false = true → ∀ e ∈ oj.after, Region.binds .any e = true →
          (listed.setIfInBounds i true).getD e.on false = true := by
        intro j oj hoj hj e he hb
        by_cases e' : i = j
        · subst e'
          rw [ho] at hoj; cases hoj
          exact getD_set_true (hready e he hb)
        · rw [getD_set_ne false e'] at hj
          exact getD_set_true (h.closed j oj hoj hj e he hb)
      have hunl : ∀ p, p ∈ pend ∨ p ∈ cur → ¬ listed.getD p false = true := fun p hp hl => by
        have hu := unl p hp
        by_cases hlt : p < listed.size
        · rw [Array.getD_eq_getD_getElem?, Array.getElem?_eq_getElem hlt] at hl hu
          simp at hl hu
          rw [hl] at hu; cases hu
        · simp [hlt] at hl
      rcases (h.mem i).1 hlf with hip | hic
      · -- carried out on paper before
        obtain ⟨o', v, hp⟩ := h.pok i hip
        have : o' = o := by have := hp.ho; rw [ho] at this; exact (Option.some.inj this).symm
        subst this
        have hst := hp.step a w (if ea.contains i then R else Δ ++ R) h.size hlooks (by
          split
          · exact h.sat
          · have := h.sat; rwa [List.append_assoc] at this)
        have hnew : wpOpsIn (FW r) 0 P ops (post K n w0 R) l (a.put o'.dst v) w := by
          refine ih (listed.setIfInBounds i true) _ _ (pend.erase i) cur pre Tc Δ
            { ok := h.ok, lsz := by simp [h.lsz], closed := hclosed, cut := h.cut, dr := h.dr, wt := h.wt, same := h.same, sat := h.sat
              mem := fun j => by
                constructor
                · intro hj
                  obtain ⟨hne, hj⟩ := set_true hj
                  rcases (h.mem j).1 hj with hj | hj
                  · exact .inl ((List.mem_erase_of_ne hne).2 hj)
                  · exact .inr hj
                · intro hj
                  have hne : i ≠ j := by
                    rintro rfl
                    rcases hj with hj | hj
                    · exact (List.Nodup.not_mem_erase h.pnd) hj
                    · have hnd : (pre ++ cur).Nodup := h.cut ▸ h.ok.nodup
                      exact (List.nodup_append.1 hnd).2.2 i (h.ppre i hip) i hj rfl
                  rw [getD_set_ne true hne]
                  exact (h.mem j).2 (hj.imp (fun x => List.mem_of_mem_erase x) id)
              ppre := fun j hj => h.ppre j (List.mem_of_mem_erase hj)
              pfl := fun j hj => h.pfl j (List.mem_of_mem_erase hj)
              pnd := h.pnd.erase i
              size := by cases o'.dst <;> simp [Act.put, h.size]
              defs := by cases o'.dst <;> exact h.defs
              pok := fun p hp => h.pok p (List.mem_of_mem_erase hp)
              val := fun t u ht hn => by
                cases hd : o'.dst with
                | none =>
                  refine h.val t u ht fun p hp op hop => ?_
                  by_cases e : p = i
                  · subst e; rw [ho] at hop; cases hop; rw [hd]; simp
                  · exact hn p ((List.mem_erase_of_ne e).2 hp) op hop
                | some d =>
                  by_cases e : d = t
                  · subst e
                    have hv := hp.hv d hd
                    rw [ht] at hv; cases hv
                    have hdn : d < n := by have := hp.hd; rw [hd] at this; simpa [dok] using this
                    simp [Act.put, h.size, hdn]
                  · have : (a.put (some d) v).tmps.getD t undef = a.tmps.getD t undef := by
                      simp only [Act.put, Array.getD_eq_getD_getElem?, Array.getElem?_setIfInBounds_ne e]
                    rw [this]
                    refine h.val t u ht fun p hp' op hop => ?_
                    by_cases e2 : p = i
                    · subst e2; rw [ho] at hop; cases hop; rw [hd]; simpa using e
                    · exact hn p ((List.mem_erase_of_ne e2).2 hp') op hop } hh hol ?_
          have hni : ch.contains i = false := by simpa using h.pfl i hip
          rw [List.filter_cons, hni] at hchn
          simpa using hchn
        rw [wpOpsIn_cons]
        unfold wpOpIn
        simp only [ho]
        rcases hst with ⟨hw, hrun⟩ | ⟨hw, rfl⟩
        · simp only [hw, if_true, Oper.wpIn]
          refine ⟨fun f _ => FW_fn r f, ?_⟩
          rw [Oper.semAt_eq _ _ _ hnos.2, hrun]
          exact hnew
        · simp only [hw, Bool.false_eq_true, if_false]
          exact ⟨fun f _ => FW_fn r f, hnew⟩
      · -- the next that turns the world
        rcases hh with rfl | ⟨c, rest, rfl, hcch⟩
        · cases hic
        have hnd : (pre ++ c :: rest).Nodup := h.cut ▸ h.ok.nodup
        have hieq : i = c := by
          rcases List.mem_cons.1 hic with e | hir
          · exact e
          · exfalso
            obtain ⟨r1, r2, hr⟩ := List.append_of_mem hir
            by_cases hich : i ∈ ch
            · have h1 : ch.contains i = true := by simpa using hich
              have h2 : ch.contains c = true := by simpa using hcch
              rw [List.filter_cons, h1, List.filter_cons, h2] at hchn
              simp only [if_true, List.cons.injEq] at hchn
              have hndr := (List.nodup_cons.1 (List.nodup_append.1 hnd).2.1).1
              exact hndr (hchn.1 ▸ hir)
            · have hb := h.ok.order (pre ++ c :: r1) i r2 (by rw [h.cut, hr]; simp) hich c (by simp) hcch
              exact hunl c (by simp) (bef_listed h.ok h.closed ho hready hb)
        subst hieq
        obtain ⟨o', ho', hd, hdr⟩ := h.dr
        have : o' = o := by have := nthO_ops ho'; rw [ho] at this; exact (Option.some.inj this).symm
        subst this
        have hc : ch.contains i = true := by simpa using hcch
        have hrel : Rel n Tc (fillT n Tc a) := fillT_rel h.wt
        have hl2 : ∀ t ∈ o'.looksAt ops, a.tmps.getD t undef = (fillT n Tc a).tmps.getD t undef := fun t ht => (fillT_get h.size fun u hu => hlooks t ht u hu).symm
        have e1 := looks_exec hnos.1 hl2
        have e2 := looks_want (ops := ops) (by rw [h.size, hrel.size]) hl2
        -- what has been carried out on paper stays so
        have hpk : ∀ (Δ' : List HP) (v : Value), ∀ p ∈ pend, ∃ op vp, PendOK P n ops ch ea Φ p (putT Tc o'.dst v) Δ' op vp := by
          intro Δ' v p hp
          obtain ⟨op, vp, hpo⟩ := h.pok p hp
          have hne : p ≠ i := fun e => h.pfl p hp (e ▸ hcch)
          obtain ⟨p1, p2, hpp⟩ := List.append_of_mem (h.ppre p hp)
          have hea : ea.contains p = false := by
            cases hcc : ea.contains p with
            | false => rfl
            | true =>
              have hb := h.ok.early p1 p (p2 ++ i :: rest) (by rw [h.cut, hpp]; simp) (by simpa using hcc) i (by simp) hcch
              exact absurd (bef_listed h.ok h.closed ho hready hb) (hunl p (.inl hp))
          have hk := hpo.keep (d := o'.dst) (u := v) fun e he => ⟨fun hm => by
              have hb := h.ok.names p op hpo.ho e hm i o' ho he
              exact h.ok.deps p1 p (p2 ++ i :: rest) (by rw [h.cut, hpp]; simp) i (by simp) hb,
            fun hde => hne (h.ok.dsts p i op o' e hpo.ho ho hde he)⟩
          refine ⟨op, vp, hk.ho, hk.hd, hk.hv, ?_⟩
          have := hk.step
          rw [hea] at this ⊢
          exact this
        have hnext : ∀ (v : Value) (Δ' : List HP) (w' : World), DR P n ops ch ea Φ D K rest (putT Tc o'.dst v) Δ' → Same w0 w' → sat w' (Φ ++ Δ' ++ R) →
            wpOpsIn (FW r) 0 P ops (post K n w0 R) l (a.put o'.dst v) w' := by
          intro v Δ' w' hdr' hs' hsat'
          obtain ⟨pend', cur', pre', Tc', h', hh', _, hfl'⟩ := St.advF (r := r) (w0 := w0) (R := R) (listed := listed.setIfInBounds i true) (a := a.put o'.dst v) (w := w') rest pend (pre ++ [i]) (putT Tc o'.dst v) Δ'
            { ok := h.ok, lsz := by simp [h.lsz], closed := hclosed, cut := by rw [h.cut]; simp, dr := hdr', wt := h.wt.put hd v, same := hs', sat := hsat'
              mem := fun j => by
                constructor
                · intro hj
                  obtain ⟨hne, hj⟩ := set_true hj
                  rcases (h.mem j).1 hj with hj | hj
                  · exact .inl hj
                  · rcases List.mem_cons.1 hj with e | hj
                    · exact absurd e hne
                    · exact .inr hj
                · intro hj
                  have hne : i ≠ j := by
                    rintro rfl
                    rcases hj with hj | hj
                    · exact h.pfl i hj hcch
                    · exact (List.nodup_cons.1 (List.nodup_append.1 hnd).2.1).1 hj
                  rw [getD_set_ne true hne]
                  exact (h.mem j).2 (hj.imp id (fun x => List.mem_cons_of_mem _ x))
              ppre := fun j hj => List.mem_append_left _ (h.ppre j hj)
              pfl := h.pfl
              pnd := h.pnd
              size := by cases o'.dst <;> simp [Act.put, h.size]
              defs := by cases o'.dst <;> exact h.defs
              pok := hpk Δ' v
              val := fun t u ht hn => by
                cases hdd : o'.dst with
                | none => rw [hdd] at ht; exact h.val t u ht hn
                | some d =>
                  rw [hdd] at ht
                  by_cases e : d = t
                  · subst e
                    rw [tget_put_eq] at ht; cases ht
                    have hdn : d < n := by rw [hdd] at hd; simpa [dok] using hd
                    simp [Act.put, h.size, hdn]
                  · rw [tget_put_ne e] at ht
                    have : (a.put (some d) v).tmps.getD t undef = a.tmps.getD t undef := by
                      simp only [Act.put, Array.getD_eq_getD_getElem?, Array.getElem?_setIfInBounds_ne e]
                    rw [this]
                    exact h.val t u ht hn }
          refine ih (listed.setIfInBounds i true) _ _ pend' cur' pre' Tc' Δ' h' hh' hol ?_
          rw [List.filter_cons, hc] at hchn
          simp only [if_true] at hchn
          have := hfl'
          rw [List.filter_cons, hc] at hchn
          simp only [if_true, List.cons.injEq, true_and] at hchn
          rw [hchn, hfl']
        rw [wpOpsIn_cons]
        unfold wpOpIn
        simp only [ho]
        rcases hdr with ⟨hc', _⟩ | ⟨_, hwt, hdr⟩ | ⟨_, hwt, Q, hop, hv, hp⟩
        · rw [hc] at hc'; cases hc'
        · have hw : Region.wanted o' (yielded ops a.tmps) = false := by rw [e2]; exact wantT_sound hrel hwt
          simp only [hw, Bool.false_eq_true, if_false]
          exact ⟨fun f _ => FW_fn r f, hnext undef Δ w hdr h.same h.sat⟩
        · have hw : Region.wanted o' (yielded ops a.tmps) = true := by rw [e2]; exact wantT_sound hrel hwt
          simp only [hw, if_true, Oper.wpIn]
          refine ⟨fun f _ => FW_fn r f, ?_⟩
          rw [Oper.semAt_eq _ _ _ hnos.2, e1]
          have hsat2 : sat w (Δ ++ (Φ ++ R)) := by
            refine sat_perm ?_ h.sat
            rw [← List.append_assoc]
            exact List.Perm.append_right R List.perm_append_comm
          have back : ∀ {w' : World} {Δ' : List HP}, sat w' (Δ' ++ (Φ ++ R)) → sat w' (Φ ++ Δ' ++ R) := fun {w' Δ'} hs => by
            refine sat_perm ?_ hs
            rw [← List.append_assoc]
            exact List.Perm.append_right R List.perm_append_comm
          refine upon_of_next (C := cpost w (Φ ++ R) Q) ?_ ?_ _ (hop.2 n _ w (Φ ++ R) hrel hsat2)
          · rintro v w' ⟨hs', Δ', q, hsat'⟩
            exact hnext v Δ' w' (hv v Δ' q) (h.same.trans hs') (back hsat')
          · rintro chn w' ⟨hs', Δ', q, hsat'⟩
            exact ⟨h.same.trans hs', [], Φ ++ Δ', h.defs ▸ hp chn Δ' q, Rel.nil h.size, back hsat'⟩



/-- How many operations are left. -/
def leftN (ops : Array Oper) (listed : Array Bool) : Nat := ((List.range ops.size).filter fun j => !listed.getD j true).length
theorem filter_length_lt {α : Type} {p q : α → Bool} (hpq : ∀ x, q x = true → p x = true) : ∀ {l : List α} {x : α}, x ∈ l → p x = true → q x = false → (l.filter q).length < (l.filter p).length := by
  have le : ∀ l : List α, (l.filter q).length ≤ (l.filter p).length := by
    intro l
    induction l with
    | nil => simp
    | cons y l ih =>
      rw [List.filter_cons, List.filter_cons]
      cases hq : q y with
      | true => simp [hpq y hq, ih]
      | false =>
        cases hp : p y with
        | true => simp; omega
        | false => simpa using ih
  intro l
  induction l with
  | nil => intro x hx; cases hx
  | cons y l ih =>
    intro x hx hp hq
    rw [List.filter_cons, List.filter_cons]
    rcases List.mem_cons.1 hx with rfl | hx
    · rw [hp, hq]; simp; have := le l; omega
    · have := ih hx hp hq
      cases hq' : q y with
      | true => simp [hpq y hq', this]
      | false =>
        cases hp' : p y with
        | true => simp; omega
        | false => simpa using this
theorem ord_of_linearise (hok : DrawOK ops l0 ch ea bf) : ∀ (fuel t : Nat) (listed : Array Bool), listed.size = ops.size → leftN ops listed ≤ fuel → OrdL ops listed (Region.linearise.go .any ops fuel t listed []) := by
  have some_ready : ∀ (listed : Array Bool), listed.size = ops.size → ∀ m j, j ≤ m → listed.getD j true = false → Region.ready .any ops listed ≠ [] := by
    intro listed hls m
    induction m with
    | zero =>
      intro j hj hl e
      have hlt : j < listed.size := by
        rcases Nat.lt_or_ge j listed.size with h' | h'
        · exact h'
        · simp [Array.getElem?_eq_none h'] at hl
      have : j ∈ Region.ready .any ops listed := mem_ready.2 ⟨hl, _, Array.getElem?_eq_getElem (hls ▸ hlt), fun e he hb => by
        have := hok.below j _ (Array.getElem?_eq_getElem (hls ▸ hlt)) e he hb
        omega⟩
      rw [e] at this; cases this
    | succ m ih =>
      intro j hj hl e
      have hlt : j < listed.size := by
        rcases Nat.lt_or_ge j listed.size with h' | h'
        · exact h'
        · simp [Array.getElem?_eq_none h'] at hl
      have hoj := Array.getElem?_eq_getElem (hls ▸ hlt : j < ops.size)
      by_cases hall : ∀ e ∈ (ops[j]'(hls ▸ hlt)).after, Region.binds .any e = true → listed.getD e.on false = true
      · have : j ∈ Region.ready .any ops listed := mem_ready.2 ⟨hl, _, hoj, hall⟩
        rw [e] at this; cases this
      · simp only [Classical.not_forall] at hall
        obtain ⟨ed, hed, hb, hn⟩ := hall
        have hlt2 := hok.below j _ hoj ed hed hb
        refine ih ed.on (by omega) ?_ e
        have h3 : ed.on < listed.size := by omega
        simpa [h3] using hn
  have alld : ∀ (listed : Array Bool), listed.size = ops.size → Region.ready .any ops listed = [] → ∀ j, listed.getD j true = true := by
    intro listed hls hr j
    cases hj : listed.getD j true with
    | true => rfl
    | false => exact absurd hr (some_ready listed hls j j (Nat.le_refl _) hj)
  intro fuel
  induction fuel with
  | zero =>
    intro t listed hls hle
    simp only [Region.linearise.go, List.reverse_nil]
    intro j
    cases hj : listed.getD j true with
    | true => rfl
    | false =>
      have hlt : j < ops.size := by
        rcases Nat.lt_or_ge j ops.size with h' | h'
        · exact h'
        · rw [← hls] at h'; simp [Array.getElem?_eq_none h'] at hj
      have : 0 < leftN ops listed := List.length_pos_of_mem (a := j) (List.mem_filter.2 ⟨List.mem_range.2 hlt, by rw [hj]; rfl⟩)
      omega
  | succ fuel ih =>
    intro t listed hls hle
    simp only [Region.linearise.go]
    change OrdL ops listed (match (Region.ready .any ops listed)[t % (Region.ready .any ops listed).length]? with
      | some i => Region.linearise.go .any ops fuel (t / (Region.ready .any ops listed).length) (listed.setIfInBounds i true) [i]
      | none => [].reverse)
    cases hi : (Region.ready .any ops listed)[t % (Region.ready .any ops listed).length]? with
    | none =>
      have hnil : Region.ready .any ops listed = [] := by
        cases hr : Region.ready .any ops listed with
        | nil => rfl
        | cons x xs =>
          rw [hr] at hi
          have hlt : t % (x :: xs).length < (x :: xs).length := Nat.mod_lt _ (by simp)
          simp at hi
          simp at hlt
          omega
      exact alld listed hls hnil
    | some i =>
      simp only []
      rw [linearise_go_acc, List.reverse_singleton, List.singleton_append]
      have hir := List.mem_of_getElem? hi
      refine ⟨hir, ih _ _ (by simp [hls]) ?_⟩
      obtain ⟨hlf, o, ho, _⟩ := mem_ready.1 hir
      have hlt : i < ops.size := (Array.getElem?_eq_some_iff.1 ho).1
      have : leftN ops (listed.setIfInBounds i true) < leftN ops listed := by
        refine filter_length_lt (x := i) ?_ (List.mem_range.2 hlt) (by rw [hlf]; rfl) ?_
        · intro j hj
          have hj' : (listed.setIfInBounds i true).getD j true = false := by simpa using hj
          rw [(set_true hj').2]; rfl
        · have : i < listed.size := by omega
          simp [this]
      omega

/-- All orders of what turns the world that the edges allow. -/
def exts (tb : List Nat) : Nat → List Nat → List (List Nat)
  | 0, _ => [[]]
  | f + 1, rem => match rem with
    | [] => [[]]
    | _ :: _ => (rem.filter fun c => rem.all fun c' => !(tb.getD c 0).testBit c').flatMap fun c => (exts tb f (rem.erase c)).map (c :: ·)
theorem exts_spec (tb : List Nat) : ∀ (f : Nat) (l rem : List Nat), l.length ≤ f → l.Nodup → rem.Nodup → (∀ x, x ∈ l ↔ x ∈ rem) → (∀ p c q, l = p ++ c :: q → ∀ c' ∈ c :: q, ¬ (tb.getD c 0).testBit c' = true) → l ∈ exts tb f rem := by
  intro f
  induction f with
  | zero =>
    intro l rem hf _ _ _ _
    have : l = [] := List.eq_nil_of_length_eq_zero (by omega)
    subst this; simp [exts]
  | succ f ih =>
    intro l rem hf hnd hnr hm hb
    cases l with
    | nil =>
      have : rem = [] := List.eq_nil_iff_forall_not_mem.2 fun x hx => by have := (hm x).2 hx; cases this
      subst this; simp [exts]
    | cons c l =>
      have hc : c ∈ rem := (hm c).1 (by simp)
      cases hr : rem with
      | nil => rw [hr] at hc; cases hc
      | cons y ys =>
        rw [← hr]
        simp only [exts, hr]
        rw [← hr]
        rw [List.mem_flatMap]
        refine ⟨c, List.mem_filter.2 ⟨hc, ?_⟩, List.mem_map.2 ⟨l, ?_, rfl⟩⟩
        · rw [List.all_eq_true]
          intro c' hc'
          have := hb [] c l rfl c' ((hm c').2 hc')
          simpa using this
        · refine ih l (rem.erase c) (by simp at hf; omega) (List.nodup_cons.1 hnd).2 (hnr.erase c) (fun x => ?_) (fun p c1 q e => ?_)
          · have hcl := (List.nodup_cons.1 hnd).1
            constructor
            · intro hx
              have hne : x ≠ c := fun e => hcl (e ▸ hx)
              exact (List.mem_erase_of_ne hne).2 ((hm x).1 (List.mem_cons_of_mem _ hx))
            · intro hx
              have hne : x ≠ c := fun e => by subst e; exact hnr.not_mem_erase hx
              have := (hm x).2 ((List.mem_erase_of_ne hne).1 hx)
              rcases List.mem_cons.1 this with e | h
              · exact absurd e hne
              · exact h
          · exact hb (c :: p) c1 q (by rw [e]; rfl)
theorem ord_chain (hok : DrawOK ops l0 ch ea bf) : ∀ (l : List Nat) (listed : Array Bool), OrdL ops listed l →
    (∀ (j : Nat) (o : Oper), ops[j]? = some o → listed.getD j false = true → ∀ e ∈ o.after, Region.binds .any e = true → listed.getD e.on false = true) →
    l.Nodup ∧ (∀ x, x ∈ l ↔ listed.getD x true = false) ∧ ∀ p c q, l = p ++ c :: q → ∀ c' ∈ c :: q, ¬ bf c c' := by
  intro l
  induction l with
  | nil =>
    intro listed h _
    refine ⟨List.nodup_nil, fun x => ⟨fun hx => (by cases hx), fun hx => ?_⟩, fun p c q e => by simp at e⟩
    rw [h x] at hx; cases hx
  | cons i l ih =>
    intro listed h hcl
    obtain ⟨hi, h⟩ := h
    obtain ⟨hlf, o, ho, hready⟩ := mem_ready.1 hi
    have hclosed : ∀ (j : Nat) (oj : Oper), ops[j]? = some oj → (listed.setIfInBounds i true).getD j false = true → ∀ e ∈ oj.after, Region.binds .any e = true →
        (listed.setIfInBounds i true).getD e.on false = true := by
      intro j oj hoj hj e he hb
      by_cases e' : i = j
      · subst e'
        rw [ho] at hoj; cases hoj
        exact getD_set_true (hready e he hb)
      · rw [getD_set_ne false e'] at hj
        exact getD_set_true (hcl j oj hoj hj e he hb)
    obtain ⟨h1, h2, h3⟩ := ih _ h hclosed
    have hil : i ∉ l := fun hm => (set_true ((h2 i).1 hm)).1 rfl
    have hmem : ∀ x, x ∈ i :: l ↔ listed.getD x true = false := fun x => by
      constructor
      · intro hx
        rcases List.mem_cons.1 hx with rfl | hx
        · exact hlf
        · exact (set_true ((h2 x).1 hx)).2
      · intro hx
        by_cases e : i = x
        · subst e; simp
        · refine List.mem_cons_of_mem _ ((h2 x).2 ?_)
          rw [getD_set_ne true e]; exact hx
    refine ⟨List.nodup_cons.2 ⟨hil, h1⟩, hmem, fun p c q e => ?_⟩
    cases p with
    | nil =>
      simp only [List.nil_append, List.cons.injEq] at e
      obtain ⟨rfl, rfl⟩ := e
      intro c' hc' hb
      have hl := bef_listed hok hcl ho hready hb
      have hu := (hmem c').1 hc'
      by_cases hlt : c' < listed.size
      · rw [Array.getD_eq_getD_getElem?, Array.getElem?_eq_getElem hlt] at hl hu
        simp at hl hu
        rw [hl] at hu; cases hu
      · simp [hlt] at hl
    | cons y p =>
      simp only [List.cons_append, List.cons.injEq] at e
      exact h3 p c q e.2

def coversB (ops : Array Oper) (ch : List Nat) (cands : List (List Nat × List Nat)) : Bool :=
  chkNodup ch && ch.all (Nat.blt · ops.toList.length) && (exts (mkTb ops.toList) ch.length ch).all fun σ => cands.any fun x => x.1.filter ch.contains == σ
/-- A region whose order is drawn, by a walk for each order of what turns the world. -/
theorem SC_drawM [m : Mixed P] {id : Nat} {T : Tm} {Φ' Γ Δ : List HP} (ch : List Nat) (cands : List (List Nat × List Nat)) (hc : cands.all (fun x => okDrawF false ops x.1 ch x.2) = true)
    (hv : coversB ops ch cands = true) (hn : cands ≠ []) (p : Γ.Perm (Φ' ++ Δ)) (h : ∀ x ∈ cands, DR P n ops ch x.2 Φ' D K x.1 T Δ) :
    SC P r n (.region id ops true) T D Γ K := by
  intro a w0 w R hs hr hd hsat
  refine wpIn_region_draw fun t => ?_
  simp only [Region.schedule, m.h, Bool.true_or, if_true]
  rw [List.all_eq_true] at hc
  simp only [coversB, Bool.and_eq_true, List.all_eq_true] at hv
  obtain ⟨⟨hvn, hvl⟩, hv⟩ := hv
  have hne := List.exists_mem_of_ne_nil _ hn
  obtain ⟨x0, hx0⟩ := hne
  obtain ⟨hok0, _⟩ := okDraw_spec (hc x0 hx0)
  have hcl0 : ∀ (j : Nat) (o : Oper), ops[j]? = some o → (Array.replicate ops.size false).getD j false = true → ∀ e ∈ o.after, Region.binds .any e = true → (Array.replicate ops.size false).getD e.on false = true := fun j o ho hj => by
    have hlt : j < ops.size := (Array.getElem?_eq_some_iff.1 ho).1
    simp [hlt] at hj
  have hord := ord_of_linearise hok0 ops.size t (Array.replicate ops.size false) (by simp) (by
    have := List.length_filter_le (fun j => !(Array.replicate ops.size false).getD j true) (List.range ops.size)
    simpa [leftN] using this)
  generalize hl : Region.linearise .any ops t = l
  have hl' : Region.linearise.go .any ops ops.size t (Array.replicate ops.size false) [] = l := hl
  rw [hl'] at hord
  obtain ⟨h1, h2, h3⟩ := ord_chain hok0 l _ hord hcl0
  have hmem : ∀ x, x ∈ l ↔ x < ops.size := fun x => by
    rw [h2 x]
    constructor
    · intro hx
      rcases Nat.lt_or_ge x ops.size with h' | h'
      · exact h'
      · simp [Nat.not_lt.2 h'] at hx
    · intro hx; simp [hx]
  have hfm : ∀ x, x ∈ l.filter ch.contains ↔ x ∈ ch := fun x => by
    rw [List.mem_filter]
    constructor
    · intro hx; simpa using hx.2
    · intro hx
      exact ⟨(hmem x).2 (by simpa using Nat.lt_of_succ_le (Nat.le_of_ble_eq_true (hvl x hx))), by simpa using hx⟩
  have hin : l.filter ch.contains ∈ exts (mkTb ops.toList) ch.length ch := by
    have hnf : (l.filter ch.contains).Nodup := h1.filter _
    refine exts_spec _ _ _ _ ?_ hnf (chkNodup_spec _ hvn) hfm ?_
    · exact List.Nodup.length_le_of_subset hnf fun x hx => (hfm x).1 hx
    · intro p c q e c' hc'
      have hcc : c ∈ l := (List.mem_filter.1 (by rw [e]; simp : c ∈ l.filter ch.contains)).1
      -- where c stands in the whole order, c' stands behind it
      obtain ⟨l1, l2, e1, e2, e3⟩ : ∃ l1 l2, l = l1 ++ c :: l2 ∧ l1.filter ch.contains = p ∧ l2.filter ch.contains = q := by
        have := List.filter_eq_append_iff.1 e
        obtain ⟨l1, l2, hl12, hp, hq⟩ := this
        have := List.filter_eq_cons_iff.1 hq
        obtain ⟨m1, m2, hm12, hm1, hcp, hm2⟩ := this
        refine ⟨l1 ++ m1, m2, by rw [hl12, hm12]; simp, ?_, hm2⟩
        rw [List.filter_append, hp, List.filter_eq_nil_iff.2 hm1, List.append_nil]
      refine h3 l1 c l2 e1 c' ?_
      rcases List.mem_cons.1 hc' with rfl | hq
      · simp
      · rw [← e3] at hq
        exact List.mem_cons_of_mem _ (List.mem_filter.1 hq).1
  have hx := hv _ hin
  rw [List.any_eq_true] at hx
  obtain ⟨x, hxm, hxe⟩ := hx
  have hxe' : x.1.filter ch.contains = l.filter ch.contains := by simpa using hxe
  obtain ⟨hok, _⟩ := okDraw_spec (hc x hxm)
  have hsat2 : sat { w with drawn := w.drawn + 1 } (Φ' ++ Δ ++ R) := sat_heap rfl (sat_perm (List.Perm.append_right R p) hsat)
  obtain ⟨pend', cur', pre', Tc', h', hh', _, hfl'⟩ := St.advF (r := r) (w0 := w0) (R := R) (listed := Array.replicate ops.size false) (a := a) (w := { w with drawn := w.drawn + 1 }) x.1 [] [] T Δ
    { ok := hok, lsz := by simp, cut := rfl, dr := h x hxm, size := hr.size, defs := hd, same := ⟨hs.tape, hs.os, hs.output, hs.size⟩, sat := hsat2, pnd := List.nodup_nil
      mem := fun j => by
        simp only [List.not_mem_nil, false_or]
        rw [hok.mem j, ← hmem j]
        exact (h2 j).symm
      closed := hcl0
      ppre := fun j hj => by cases hj
      pfl := fun j hj => by cases hj
      wt := fun t v ht => by
        rcases Nat.lt_or_ge t n with h' | h'
        · exact .inl h'
        · right
          have := hr.val t v ht
          rw [Array.getD_eq_getD_getElem?, Array.getElem?_eq_none (by rw [hr.size]; exact h')] at this
          exact this.symm
      val := fun t v ht _ => hr.val t v ht
      pok := fun j hj => by cases hj }
  exact drawn_list hok l _ _ _ pend' cur' pre' Tc' Δ h' hh' hord (by rw [← hfl', hxe'])
end
end Go.Proofs.Ytdganbddgobfdaa
