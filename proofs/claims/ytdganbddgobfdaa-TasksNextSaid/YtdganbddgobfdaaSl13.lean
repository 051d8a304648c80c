/- A region whose order is drawn but for its last operation, which comes behind all others. -/
import Derived.Test.YtdganbddgobfdaaSl12
namespace Go.Proofs.Ytdganbddgobfdaa

theorem wpIn_monoQ {F : Fence} {n : Nat} {P : Program} {o : Oper} {a : Act} {w : World} {K K' : Act → World → Prop} {Q Q' : Exit → Act → World → Prop} (h : ∀ a w, K a w → K' a w) (hQ : ∀ e a w, e ≠ .normal → Q e a w → Q' e a w)
    (hh : o.wpIn F n P a w K Q) : o.wpIn F n P a w K' Q' := by
  unfold Oper.wpIn at *
  refine ⟨hh.1, ?_⟩
  have hh := hh.2
  generalize (o.semAt F.round a.eval).run P w = r at *
  have hlo : LetsOut Q → LetsOut Q' := fun ⟨a, w, q⟩ => ⟨a, w, hQ _ _ _ (by simp) q⟩
  cases r with
  | ok x w' =>
    cases x <;> simp only [Oper.uponIn] at hh ⊢ <;>
      first
        | exact h _ _ hh
        | exact ⟨hh.1, CallsIn.mono hh.2 (fun e w'' he => by cases e <;> first | exact h _ _ he | exact hQ _ _ _ (by simp) he | exact hlo he)⟩
        | exact ⟨hh.1, RowsIn.mono hh.2 (fun _ _ he => h _ _ he)⟩
        | exact ⟨hh.1, RoundIn.mono hh.2 (fun e w'' he => by cases e <;> first | exact h _ _ he | exact hQ _ _ _ (by simp) he | exact hlo he)⟩
  | halt x w' => cases x <;> simp only [Oper.uponIn] at hh ⊢ <;> first | exact hQ _ _ _ (by simp) hh | exact hh

section
variable {F : Fence} {n : Nat} {P : Program} {md : Region.Mode} {ops : Array Oper} {o : Oper} {Q : Exit → Act → World → Prop}
def lastQ (F : Fence) (n : Nat) (P : Program) (ops : Array Oper) (o : Oper) (Q : Exit → Act → World → Prop) : Exit → Act → World → Prop
  | .normal, a, w => wpOpIn F n P (ops.push o) Q ops.size (fun a w => Q .normal a w) a w
  | e, a, w => Q e a w
theorem getD_push {listed : Array Bool} {b d : Bool} {i : Nat} : (listed.push b).getD i d = if i < listed.size then listed.getD i d else if i = listed.size then b else d := by
  simp only [Array.getD_eq_getD_getElem?, Array.getElem?_push]
  by_cases h : i = listed.size
  · rw [if_pos h, if_neg (by omega), if_pos h]; rfl
  · rw [if_neg h]
    by_cases h2 : i < listed.size
    · rw [if_pos h2]
    · rw [if_neg h2, if_neg h, Array.getElem?_eq_none (by omega)]; rfl
theorem all_listed {listed : Array Bool} (hs : listed.size = ops.size) (hbelow : ∀ i oi, ops[i]? = some oi → ∀ e ∈ oi.after, Region.binds md e = true → e.on < i) (h : Region.ready md ops listed = []) :
    ∀ m i, i < m → i < ops.size → listed.getD i false = true := by
  intro m
  induction m with
  | zero => intro i hi; omega
  | succ m ih =>
    intro i hi hi2
    refine Classical.byContradiction fun hn => ?_
    have hm : i ∈ Region.ready md ops listed := by
      rw [mem_ready]
      refine ⟨?_, ops[i], Array.getElem?_eq_getElem hi2, fun e he hb => ?_⟩
      · have : listed.getD i false = listed.getD i true := by rw [Array.getD_eq_getD_getElem?, Array.getD_eq_getD_getElem?, Array.getElem?_eq_getElem (by omega)]; rfl
        rw [← this]; simpa using hn
      · have := hbelow i _ (Array.getElem?_eq_getElem hi2) e he hb
        exact ih e.on (by omega) (by omega)
    rw [h] at hm; cases hm
def Shut (md : Region.Mode) (ops : Array Oper) (listed : Array Bool) : Prop := ∀ i oi, ops[i]? = some oi → listed.getD i false = true → ∀ e ∈ oi.after, Region.binds md e = true → listed.getD e.on false = true
theorem all_of_last {listed : Array Bool} (hlast : ∀ j, j < ops.size → (∃ e ∈ o.after, Region.binds md e = true ∧ e.on = j) ∨ ∃ i oi, j < i ∧ ops[i]? = some oi ∧ ∃ e ∈ oi.after, Region.binds md e = true ∧ e.on = j)
    (hcl : Shut md ops listed) (h3 : ∀ e ∈ o.after, Region.binds md e = true → listed.getD e.on false = true) : ∀ k j, ops.size - j ≤ k → j < ops.size → listed.getD j false = true := by
  intro k
  induction k with
  | zero => intro j h1 h2; omega
  | succ k ih =>
    intro j h1 h2
    rcases hlast j h2 with ⟨e, he, hb, hon⟩ | ⟨i, oi, hij, hoi, e, he, hb, hon⟩
    · rw [← hon]; exact h3 e he hb
    · have hi : i < ops.size := (Array.getElem?_eq_some_iff.1 hoi).1
      have := hcl i oi hoi (ih i (by omega) hi) e he hb
      rw [hon] at this; exact this
theorem any_last (hlast : ∀ j, j < ops.size → (∃ e ∈ o.after, Region.binds md e = true ∧ e.on = j) ∨ ∃ i oi, j < i ∧ ops[i]? = some oi ∧ ∃ e ∈ oi.after, Region.binds md e = true ∧ e.on = j) (hlb : ∀ e ∈ o.after, e.on < ops.size)
    (hbelow : ∀ i oi, ops[i]? = some oi → ∀ e ∈ oi.after, Region.binds md e = true → e.on < i) (hg : ∀ (i : Nat) (oi : Oper), ops[i]? = some oi → ∀ g, oi.guard = some g → g.1 < ops.size) :
    ∀ fuel (listed : Array Bool) a w, listed.size = ops.size → Shut md ops listed → wpAnyIn F n P md ops (lastQ F n P ops o Q) fuel listed a w → wpAnyIn F n P md (ops.push o) Q (fuel + 1) (listed.push false) a w := by
  have hops : ∀ i, i < ops.size → (ops.push o)[i]? = ops[i]? := fun i hi => by rw [Array.getElem?_push]; rw [if_neg (by omega)]
  have hlo : (ops.push o)[ops.size]? = some o := by simp
  have hsz : (ops.push o).size = ops.size + 1 := by simp
  -- all others are done
  have fin : ∀ fuel (listed : Array Bool) a w, listed.size = ops.size → Region.ready md ops listed = [] → lastQ F n P ops o Q .normal a w → wpAnyIn F n P md (ops.push o) Q (fuel + 1) (listed.push false) a w := by
    intro fuel listed a w hs hr hq
    have hall := all_listed hs hbelow hr
    have hl : ∀ i, i < ops.size → listed.getD i false = true := fun i hi => hall (i + 1) i (by omega) hi
    refine ⟨fun h => ?_, fun i hi => ?_⟩
    · have : ops.size ∈ Region.ready md (ops.push o) (listed.push false) := by
        rw [mem_ready]
        refine ⟨by rw [getD_push, if_neg (by omega), if_pos hs.symm], o, hlo, fun e he hb => ?_⟩
        have := hlb e he
        rw [getD_push, if_pos (by omega)]; exact hl _ this
      rw [h] at this; cases this
    · rw [mem_ready] at hi
      obtain ⟨h1, oi, h2, h3⟩ := hi
      have hlt : i < ops.size + 1 := by rw [← hsz]; exact (Array.getElem?_eq_some_iff.1 h2).1
      have hi2 : i = ops.size := by
        rcases Nat.lt_or_ge i ops.size with h | h
        · rw [getD_push, if_pos (by omega)] at h1
          have := hl i h
          rw [Array.getD_eq_getD_getElem?, Array.getElem?_eq_getElem (by omega)] at h1 this
          simp at h1 this; rw [h1] at this; cases this
        · omega
      subst hi2
      refine wpOpIn_mono (fun a w hq => ?_) hq
      have hnone : Region.ready md (ops.push o) ((listed.push false).setIfInBounds ops.size true) = [] := by
        rw [List.eq_nil_iff_forall_not_mem]
        intro j hj
        rw [mem_ready] at hj
        obtain ⟨g1, oj, g2, _⟩ := hj
        have hjlt : j < ops.size + 1 := by rw [← hsz]; exact (Array.getElem?_eq_some_iff.1 g2).1
        rw [Array.getD_eq_getD_getElem?, Array.getElem?_setIfInBounds] at g1
        by_cases hje : ops.size = j
        · rw [if_pos hje] at g1
          simp [hs, hje] at g1
        · rw [if_neg hje] at g1
          have g1' : (listed.push false).getD j true = false := by rw [Array.getD_eq_getD_getElem?]; exact g1
          rw [getD_push, if_pos (by omega)] at g1'
          have := hl j (by omega)
          rw [Array.getD_eq_getD_getElem?, Array.getElem?_eq_getElem (by omega)] at g1' this
          simp at g1' this; rw [g1'] at this; cases this
      cases fuel with
      | zero => exact ⟨hnone, hq⟩
      | succ fuel => exact ⟨fun _ => hq, fun i hi => by rw [hnone] at hi; cases hi⟩
  intro fuel
  induction fuel with
  | zero => exact fun listed a w hs _ h => fin 0 listed a w hs h.1 h.2
  | succ fuel ih =>
    intro listed a w hs hcl h
    by_cases hr : Region.ready md ops listed = []
    · exact fin _ listed a w hs hr (h.1 hr)
    · obtain ⟨x, hx⟩ := List.exists_mem_of_ne_nil _ hr
      have hx' := mem_ready.1 hx
      obtain ⟨hx1, ox, hx2, hx3⟩ := hx'
      have hxlt : x < ops.size := (Array.getElem?_eq_some_iff.1 hx2).1
      have conv : ∀ i, i ∈ Region.ready md (ops.push o) (listed.push false) → i ∈ Region.ready md ops listed := by
        intro i hi
        rw [mem_ready] at hi ⊢
        obtain ⟨h1, oi, h2, h3⟩ := hi
        have hlt : i < ops.size + 1 := by rw [← hsz]; exact (Array.getElem?_eq_some_iff.1 h2).1
        have hi2 : i < ops.size := by
          refine Classical.byContradiction fun hn => ?_
          have hi3 : i = ops.size := by omega
          subst hi3
          rw [hlo] at h2; cases h2
          have this := all_of_last hlast hcl (fun e he hb => by
            have := h3 e he hb
            have hlt := hlb e he
            rwa [getD_push, if_pos (by omega)] at this) _ x (Nat.le_refl _) hxlt
          rw [Array.getD_eq_getD_getElem?, Array.getElem?_eq_getElem (by omega)] at hx1 this
          simp at hx1 this; rw [hx1] at this; cases this
        rw [hops i hi2] at h2
        refine ⟨by rwa [getD_push, if_pos (by omega)] at h1, oi, h2, fun e he hb => ?_⟩
        have h4 := h3 e he hb
        have h5 := hbelow i oi h2 e he hb
        rwa [getD_push, if_pos (by omega)] at h4
      refine ⟨fun hn => ?_, fun i hi => ?_⟩
      · have : x ∈ Region.ready md (ops.push o) (listed.push false) := by
          rw [mem_ready]
          refine ⟨by rw [getD_push, if_pos (by omega)]; exact hx1, ox, by rw [hops x hxlt]; exact hx2, fun e he hb => ?_⟩
          have := hbelow x ox hx2 e he hb
          rw [getD_push, if_pos (by omega)]; exact hx3 e he hb
        rw [hn] at this; cases this
      · have hi' := conv i hi
        have h1 := h.2 i hi'
        obtain ⟨_, oi, h2, _⟩ := mem_ready.1 hi'
        have hilt : i < ops.size := (Array.getElem?_eq_some_iff.1 h2).1
        have hset : (listed.push false).setIfInBounds i true = (listed.setIfInBounds i true).push false := by
          apply Array.ext'
          simp only [Array.toList_setIfInBounds, Array.toList_push]
          rw [List.set_append_left _ _ (by simpa using by omega)]
        have hK : ∀ a w, wpAnyIn F n P md ops (lastQ F n P ops o Q) fuel (listed.setIfInBounds i true) a w → wpAnyIn F n P md (ops.push o) Q (fuel + 1) ((listed.push false).setIfInBounds i true) a w := fun a w hk => by
          rw [hset]
          refine ih _ a w (by simpa using hs) ?_ hk
          intro k ok hok hkl e he hb
          have hdeps : ∀ e ∈ oi.after, Region.binds md e = true → listed.getD e.on false = true := by
            obtain ⟨_, oi', h2', h3'⟩ := mem_ready.1 hi'
            rw [h2] at h2'; cases h2'; exact h3'
          have key : listed.getD e.on false = true := by
            by_cases hki : k = i
            · subst hki; rw [h2] at hok; cases hok; exact hdeps e he hb
            · refine hcl k ok hok ?_ e he hb
              rw [Array.getD_eq_getD_getElem?, Array.getElem?_setIfInBounds, if_neg (Ne.symm hki)] at hkl
              rw [Array.getD_eq_getD_getElem?]; exact hkl
          rw [Array.getD_eq_getD_getElem?, Array.getElem?_setIfInBounds]
          by_cases hei : i = e.on
          · rw [if_pos hei, if_pos (by omega)]; rfl
          · rw [if_neg hei, ← Array.getD_eq_getD_getElem?]; exact key
        have hQ : ∀ e a w, e ≠ .normal → lastQ F n P ops o Q e a w → Q e a w := fun e a w he hq => by cases e <;> first | exact absurd rfl he | exact hq
        unfold wpOpIn at h1 ⊢
        rw [hops i hilt, h2]
        rw [h2] at h1
        have hy : Region.wanted oi (yielded (ops.push o) a.tmps) = Region.wanted oi (yielded ops a.tmps) := by
          unfold Region.wanted
          cases hgd : oi.guard with
          | none => rfl
          | some g =>
            obtain ⟨j, b⟩ := g
            have hj := hg i oi h2 _ hgd
            simp only [yielded, hops j hj]
        simp only [hy]
        simp only at h1
        split
        · rename_i hw; rw [if_pos hw] at h1; exact wpIn_monoQ hK hQ h1
        · rename_i hw; rw [if_neg hw] at h1; exact ⟨h1.1, hK _ _ h1.2⟩
end
theorem wpAnyIn_monoQ {F : Fence} {n : Nat} {P : Program} {md : Region.Mode} {ops : Array Oper} {Q Q' : Exit → Act → World → Prop} (hQ : ∀ e a w, Q e a w → Q' e a w) :
    ∀ fuel (listed : Array Bool) a w, wpAnyIn F n P md ops Q fuel listed a w → wpAnyIn F n P md ops Q' fuel listed a w := by
  intro fuel
  induction fuel with
  | zero => exact fun listed a w h => ⟨h.1, hQ _ _ _ h.2⟩
  | succ fuel ih =>
    intro listed a w h
    refine ⟨fun hr => hQ _ _ _ (h.1 hr), fun i hi => ?_⟩
    have h1 := h.2 i hi
    unfold wpOpIn at h1 ⊢
    split
    · rename_i hn; rw [hn] at h1; exact ih _ _ _ h1
    · rename_i o ho
      rw [ho] at h1
      simp only at h1
      split
      · rename_i hw; rw [if_pos hw] at h1; exact wpIn_monoQ (fun a w hk => ih _ a w hk) (fun e a w _ hq => hQ e a w hq) h1
      · rename_i hw; rw [if_neg hw] at h1; exact ⟨h1.1, ih _ _ _ h1.2⟩
def lastOK (ops : List Oper) (o : Oper) : Bool :=
  (List.range ops.length).all (fun j => (o.after.toList.any fun e => Region.binds .any e && Nat.beq e.on j) || ops.zipIdx.any fun p => Nat.blt j p.2 && p.1.after.toList.any fun e => Region.binds .any e && Nat.beq e.on j) && o.after.toList.all (fun e => Nat.blt e.on ops.length) &&
  ops.zipIdx.all (fun p => p.1.after.toList.all (fun e => !Region.binds .any e || Nat.blt e.on p.2) && (match p.1.guard with
    | some g => Nat.blt g.1 ops.length
    | none => true))
theorem SC_drawL {P : Program} {r : Option Nat} {n : Nat} {ops : Array Oper} {o : Oper} {T : Tm} {D : List Deferred} {Γ : List HP} {K : Exit → Tm → List Deferred → List HP → Prop} [m : Mixed P] {id : Nat} {all : Array Oper} {Φ Δ : List HP} (l0 ch ea : List Nat) (p : Γ.Perm (Φ ++ Δ))
    (hall : all = ops.push o) (hl : lastOK ops.toList o = true) (hc : okDraw ops l0 ch ea = true)
    (h : DR P n ops ch ea Φ D (fun e T' D' Γ' => match e with
      | .normal => SOps P r n all [ops.size] T' D' Γ' K
      | e => K e T' D' Γ') l0 T Δ) : SC P r n (.region id all true) T D Γ K := by
  subst hall
  intro a w0 w R hs hr hd hsat
  refine wpIn_region_any m.h ?_
  have h1 := draw_any (r := r) l0 ch ea hc p h hs hr hd hsat
  simp only [lastOK, Bool.and_eq_true, List.all_eq_true] at hl
  obtain ⟨⟨hl1, hl2⟩, hl3⟩ := hl
  have hmono : ∀ e a w, post (fun e T' D' Γ' => match e with
      | .normal => SOps P r n (ops.push o) [ops.size] T' D' Γ' K
      | e => K e T' D' Γ') n w0 R e a w → lastQ (FW r) 0 P ops o (post K n w0 R) e a w := by
    rintro e a w ⟨hs', T', Γ', hk, hr', hsat'⟩
    cases e with
    | normal =>
      have := hk a w0 w R hs' hr' rfl hsat'
      rw [wpOpsIn_cons] at this
      exact this
    | _ => exact ⟨hs', T', Γ', hk, hr', hsat'⟩
  have h2 := any_last (o := o) (Q := post K n w0 R) (F := FW r) (n := 0) (P := P) (md := .any) (ops := ops) (fun j hj => by
      have := hl1 j (List.mem_range.2 (by simpa using hj))
      rw [Bool.or_eq_true, List.any_eq_true, List.any_eq_true] at this
      rcases this with ⟨e, he, hb⟩ | ⟨⟨oi, i⟩, hp, hb⟩
      · rw [Bool.and_eq_true] at hb
        exact .inl ⟨e, by simpa using he, hb.1, Nat.eq_of_beq_eq_true hb.2⟩
      · simp only [Bool.and_eq_true, List.any_eq_true] at hb
        obtain ⟨hlt, e, he, hb1, hb2⟩ := hb
        exact .inr ⟨i, oi, Nat.lt_of_succ_le (Nat.le_of_ble_eq_true hlt), by rw [List.mem_zipIdx_iff_getElem?] at hp; simpa using hp, e, by simpa using he, hb1, Nat.eq_of_beq_eq_true hb2⟩) (fun e he => by
      have := hl2 e (by simpa using he)
      have := Nat.le_of_ble_eq_true this
      exact Nat.lt_of_succ_le (by simpa using this)) (fun i oi hi e he hb => by
      have h4 := (hl3 (oi, i) (by rw [List.mem_zipIdx_iff_getElem?]; simpa using hi)).1 e (by simpa using he)
      rw [hb] at h4
      simp only [Bool.not_true, Bool.false_or] at h4
      exact Nat.le_of_ble_eq_true h4) (fun i oi hi g hgd => by
      have h4 := (hl3 (oi, i) (by rw [List.mem_zipIdx_iff_getElem?]; simpa using hi)).2
      simp only [hgd] at h4
      have := Nat.le_of_ble_eq_true h4
      exact Nat.lt_of_succ_le (by simpa using this)) ops.size (Array.replicate ops.size false) a { w with drawn := w.drawn + 1 } (by simp) (fun i oi _ h => by rw [Array.getD_eq_getD_getElem?, Array.getElem?_replicate] at h; split at h <;> cases h) (wpAnyIn_monoQ hmono _ _ _ _ h1)
  rw [Array.size_push, Array.replicate_succ]
  exact h2
theorem SC_drawX {P : Program} {r : Option Nat} {n : Nat} {o : Oper} {T : Tm} {D : List Deferred} {Γ : List HP} {K : Exit → Tm → List Deferred → List HP → Prop} [m : Mixed P] {id k : Nat} {all : Array Oper} (l0 ch ea : List Nat)
    (hall : all.toList = all.toList.dropLast ++ [o]) (hl : lastOK all.toList.dropLast o = true) (hc : okDraw all.pop l0 ch ea = true) (hk : all.pop.size = k)
    (h : DR P n all.pop ch ea [] D (fun e T' D' Γ' => match e with
      | .normal => SOps P r n all [k] T' D' Γ' K
      | e => K e T' D' Γ') l0 T Γ) : SC P r n (.region id all true) T D Γ K := by
  subst hk
  refine SC_drawL (ops := all.pop) (o := o) (Φ := []) (Δ := Γ) l0 ch ea (List.Perm.refl Γ) ?_ (by simpa using hl) hc h
  apply Array.ext'
  rw [Array.toList_push, Array.toList_pop]
  exact hall
theorem SC_drawXP {P : Program} {r : Option Nat} {n : Nat} {o : Oper} {T : Tm} {D : List Deferred} {Γ : List HP} {K : Exit → Tm → List Deferred → List HP → Prop} [m : Mixed P] {id k : Nat} {all : Array Oper} (l0 ch ea : List Nat)
    (hall : all.toList = all.toList.dropLast ++ [o]) (hl : lastOK all.toList.dropLast o = true) (hc : okDraw all.pop l0 ch ea = true) (hk : all.pop.size = k) (Φ : List HP) {Δ : List HP} [tk : Takes Γ Φ Δ]
    (h : DR P n all.pop ch ea Φ D (fun e T' D' Γ' => match e with
      | .normal => SOps P r n all [k] T' D' Γ' K
      | e => K e T' D' Γ') l0 T Δ) : SC P r n (.region id all true) T D Γ K := by
  subst hk
  refine SC_drawL (ops := all.pop) (o := o) l0 ch ea tk.p ?_ (by simpa using hl) hc h
  apply Array.ext'
  rw [Array.toList_push, Array.toList_pop]
  exact hall
end Go.Proofs.Ytdganbddgobfdaa
