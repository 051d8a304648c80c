/- A small logic of owned blocks: which blocks of a world's heap a piece of a proof speaks of. -/
import Derived.CallsIn
import Derived.RangeFuncIn
import Derived.Recover
namespace Go.Proofs.Ytdganbddgobfdaa

abbrev Res := Nat → Option (Bool × Obj)
def Res.comp (h k : Res) : Prop := ∀ b x y, h b = some x → k b = some y → x.1 = true ∧ x = y
def Res.un (h k : Res) : Res := fun b => (h b).or (k b)
def Res.emp : Res := fun _ => none
abbrev HP := Res → Prop
def emp : HP := fun h => h = Res.emp
def star (A B : HP) : HP := fun h => ∃ h1 h2, Res.comp h1 h2 ∧ h = Res.un h1 h2 ∧ A h1 ∧ B h2
def bigs : List HP → HP
  | [] => emp
  | A :: l => star A (bigs l)
def single (b : Nat) (x : Bool × Obj) : Res := fun c => if c = b then some x else none
def pt (b : Nat) (o : Obj) : HP := fun h => h = single b (false, o)
def ro (b : Nat) (o : Obj) : HP := fun h => h = single b (true, o)
def base (H : Nat → Option Obj) : HP := fun h => h = fun b => (H b).map fun o => (true, o)
def pur (φ : Prop) : HP := fun h => φ ∧ emp h
def ex {α : Type} (F : α → HP) : HP := fun h => ∃ x, F x h
def grp (Γ : List HP) : HP := bigs Γ

theorem Res.comp_comm {h k : Res} (c : Res.comp h k) : Res.comp k h := fun b x y hx hy => by
  obtain ⟨h1, h2⟩ := c b y x hy hx
  exact ⟨h2 ▸ h1, h2.symm⟩
theorem Res.un_comm {h k : Res} (c : Res.comp h k) : Res.un h k = Res.un k h := by
  funext b
  unfold Res.un
  cases hh : h b with
  | none => simp
  | some x =>
    cases hk : k b with
    | none => simp
    | some y => simp [(c b x y hh hk).2]
theorem Res.un_assoc (h k l : Res) : Res.un (Res.un h k) l = Res.un h (Res.un k l) := by
  funext b; simp [Res.un, Option.or_assoc]
theorem Res.comp_un {h k l : Res} (c : Res.comp h k) : Res.comp (Res.un h k) l ↔ Res.comp h l ∧ Res.comp k l := by
  constructor
  · intro cl
    refine ⟨fun b x y hx hy => cl b x y (by simp [Res.un, hx]) hy, fun b x y hx hy => ?_⟩
    cases hh : h b with
    | none => exact cl b x y (by simp [Res.un, hh, hx]) hy
    | some z =>
      obtain ⟨h1, h2⟩ := c b z x hh hx
      exact cl b x y (by simp [Res.un, hh, h2]) hy
  · rintro ⟨c1, c2⟩ b x y hx hy
    cases hh : h b with
    | none => exact c2 b x y (by simpa [Res.un, hh] using hx) hy
    | some z => exact c1 b x y (by simpa [Res.un, hh] using hx) hy
theorem Res.comp_emp (h : Res) : Res.comp h Res.emp := fun _ _ _ _ hy => by simp [Res.emp] at hy
theorem Res.un_emp (h : Res) : Res.un h Res.emp = h := by funext b; simp [Res.un, Res.emp]

theorem star_comm {A B : HP} {h : Res} (s : star A B h) : star B A h := by
  obtain ⟨h1, h2, c, rfl, a, b⟩ := s
  exact ⟨h2, h1, Res.comp_comm c, Res.un_comm c, b, a⟩
theorem star_assoc {A B C : HP} {h : Res} (s : star (star A B) C h) : star A (star B C) h := by
  obtain ⟨h12, h3, c, rfl, ⟨h1, h2, c12, rfl, a, b⟩, cc⟩ := s
  obtain ⟨c13, c23⟩ := (Res.comp_un c12).1 c
  refine ⟨h1, Res.un h2 h3, ?_, Res.un_assoc _ _ _, a, h2, h3, c23, rfl, b, cc⟩
  exact Res.comp_comm ((Res.comp_un c23).2 ⟨Res.comp_comm c12, Res.comp_comm c13⟩)
theorem star_mono {A A' B B' : HP} (ha : ∀ h, A h → A' h) (hb : ∀ h, B h → B' h) {h : Res} (s : star A B h) : star A' B' h := by
  obtain ⟨h1, h2, c, e, a, b⟩ := s
  exact ⟨h1, h2, c, e, ha _ a, hb _ b⟩
theorem star_assoc' {A B C : HP} {h : Res} (s : star A (star B C) h) : star (star A B) C h := by
  have s1 := star_comm s
  have s2 := star_assoc s1
  have s3 := star_comm s2
  have s4 := star_assoc s3
  exact star_comm s4
theorem star_left {A B C : HP} {h : Res} (s : star A (star B C) h) : star B (star A C) h :=
  star_assoc (star_mono (fun _ x => star_comm x) (fun _ x => x) (star_assoc' s))
theorem bigs_perm {Γ Δ : List HP} (p : Γ.Perm Δ) : ∀ h, bigs Γ h → bigs Δ h := by
  induction p with
  | nil => exact fun _ x => x
  | cons A _ ih => exact fun h s => star_mono (fun _ x => x) ih s
  | swap A B l => exact fun h s => star_left s
  | trans _ _ ih1 ih2 => exact fun h s => ih2 h (ih1 h s)
theorem bigs_append {Γ Δ : List HP} : ∀ h, bigs (Γ ++ Δ) h ↔ star (bigs Γ) (bigs Δ) h := by
  induction Γ with
  | nil =>
    intro h
    constructor
    · intro s
      refine ⟨Res.emp, h, Res.comp_comm (Res.comp_emp h), ?_, rfl, s⟩
      rw [Res.un_comm (Res.comp_comm (Res.comp_emp h)), Res.un_emp]
    · rintro ⟨h1, h2, c, rfl, e, s⟩
      cases (show h1 = Res.emp from e)
      rw [Res.un_comm (Res.comp_comm (Res.comp_emp h2)), Res.un_emp]
      exact s
  | cons A Γ ih =>
    intro h
    constructor
    · intro s
      exact star_assoc' (star_mono (fun _ x => x) (fun h x => (ih h).1 x) s)
    · intro s
      exact star_mono (fun _ x => x) (fun h x => (ih h).2 x) (star_assoc s)

/-- The world holds what the list says, each thing in blocks of its own (but for those that are only read). -/
def sat (w : World) (Γ : List HP) : Prop := ∃ h, bigs Γ h ∧ ∀ b r o, h b = some (r, o) → w.heap[b]? = some o

theorem sat_heap {w w' : World} {Γ : List HP} (e : w'.heap = w.heap) (s : sat w Γ) : sat w' Γ := by
  obtain ⟨h, b, k⟩ := s; exact ⟨h, b, by rw [e]; exact k⟩
theorem sat_perm {w : World} {Γ Δ : List HP} (p : Γ.Perm Δ) (s : sat w Γ) : sat w Δ := by
  obtain ⟨h, b, k⟩ := s; exact ⟨h, bigs_perm p h b, k⟩
theorem sat_mono1 {w : World} {A B : HP} {Γ : List HP} (i : ∀ h, A h → B h) (s : sat w (A :: Γ)) : sat w (B :: Γ) := by
  obtain ⟨h, b, k⟩ := s; exact ⟨h, star_mono i (fun _ x => x) b, k⟩
theorem sat_split {w : World} {A : HP} {Γ : List HP} (s : sat w (A :: Γ)) :
    ∃ h1 h2, Res.comp h1 h2 ∧ A h1 ∧ bigs Γ h2 ∧ (∀ b r o, h1 b = some (r, o) → w.heap[b]? = some o) ∧ (∀ b r o, h2 b = some (r, o) → w.heap[b]? = some o) := by
  obtain ⟨h, ⟨h1, h2, c, rfl, a, b⟩, k⟩ := s
  refine ⟨h1, h2, c, a, b, fun x r o hx => k x r o (by simp [Res.un, hx]), fun x r o hx => ?_⟩
  cases hh : h1 x with
  | none => exact k x r o (by simp [Res.un, hh, hx])
  | some z =>
    have := (c x z (r, o) hh hx).2
    exact k x r o (by simp [Res.un, hh, this])
theorem sat_join {w : World} {A : HP} {Γ : List HP} {h1 h2 : Res} (c : Res.comp h1 h2) (a : A h1) (b : bigs Γ h2)
    (k1 : ∀ b r o, h1 b = some (r, o) → w.heap[b]? = some o) (k2 : ∀ b r o, h2 b = some (r, o) → w.heap[b]? = some o) : sat w (A :: Γ) := by
  refine ⟨Res.un h1 h2, ⟨h1, h2, c, rfl, a, b⟩, fun x r o hx => ?_⟩
  cases hh : h1 x with
  | none => exact k2 x r o (by simpa [Res.un, hh] using hx)
  | some z => exact k1 x r o (by rw [hh]; simpa [Res.un, hh] using hx)
theorem sat_drop {w : World} {A : HP} {Γ : List HP} (s : sat w (A :: Γ)) : sat w Γ := by
  obtain ⟨h1, h2, _, _, b, _, k⟩ := sat_split s; exact ⟨h2, b, k⟩
theorem sat_drops {w : World} : ∀ {Γ Δ : List HP}, sat w (Γ ++ Δ) → sat w Δ
  | [], _, s => s
  | _ :: Γ, _, s => sat_drops (Γ := Γ) (sat_drop s)
theorem sat_pt {w : World} {b : Nat} {o : Obj} {Γ : List HP} (s : sat w (pt b o :: Γ)) : w.heap[b]? = some o := by
  obtain ⟨h1, h2, _, a, _, k, _⟩ := sat_split s
  exact k b false o (by rw [show h1 = _ from a]; simp [single])
theorem sat_ro {w : World} {b : Nat} {o : Obj} {Γ : List HP} (s : sat w (ro b o :: Γ)) : w.heap[b]? = some o := by
  obtain ⟨h1, h2, _, a, _, k, _⟩ := sat_split s
  exact k b true o (by rw [show h1 = _ from a]; simp [single])
theorem sat_base {w : World} {H : Nat → Option Obj} {Γ : List HP} (s : sat w (base H :: Γ)) : ∀ b o, H b = some o → w.heap[b]? = some o := by
  obtain ⟨h1, h2, _, a, _, k, _⟩ := sat_split s
  exact fun b o hb => k b true o (by rw [show h1 = _ from a]; simp [hb])
theorem sat_dup {w : World} {A : HP} {Γ : List HP} (hA : ∀ h, A h → ∀ b x, h b = some x → x.1 = true) (s : sat w (A :: Γ)) : sat w (A :: A :: Γ) := by
  obtain ⟨h1, h2, c, a, b, k1, k2⟩ := sat_split s
  have c11 : Res.comp h1 h1 := fun x y z hy hz => ⟨hA h1 a x y hy, by rw [hy] at hz; exact Option.some.inj hz⟩
  refine sat_join (h1 := h1) (h2 := Res.un h1 h2) ?_ a ⟨h1, h2, c, rfl, a, b⟩ k1 ?_
  · exact Res.comp_comm ((Res.comp_un c).2 ⟨c11, Res.comp_comm c⟩)
  · intro x r o hx
    cases hh : h1 x with
    | none => exact k2 x r o (by simpa [Res.un, hh] using hx)
    | some z => exact k1 x r o (by rw [hh]; simpa [Res.un, hh] using hx)
theorem sat_dup_ro {w : World} {b : Nat} {o : Obj} {Γ : List HP} (s : sat w (ro b o :: Γ)) : sat w (ro b o :: ro b o :: Γ) :=
  sat_dup (fun h e c x hx => by
    rw [show h = _ from e] at hx; unfold single at hx
    by_cases hc : c = b
    · rw [if_pos hc] at hx; rw [← Option.some.inj hx]
    · rw [if_neg hc] at hx; cases hx) s
theorem sat_dup_base {w : World} {H : Nat → Option Obj} {Γ : List HP} (s : sat w (base H :: Γ)) : sat w (base H :: base H :: Γ) :=
  sat_dup (fun h e c x hx => by
    rw [show h = _ from e] at hx
    cases hH : H c with
    | none => simp [hH] at hx
    | some o => simp [hH] at hx; rw [← hx]) s
theorem sat_to_ro {w : World} {b : Nat} {o : Obj} {Γ : List HP} (s : sat w (pt b o :: Γ)) : sat w (ro b o :: Γ) := by
  obtain ⟨h1, h2, c, a, bb, k1, k2⟩ := sat_split s
  have e1 : h1 = single b (false, o) := a
  have none2 : h2 b = none := by
    cases hh : h2 b with
    | none => rfl
    | some y => exact absurd (c b (false, o) y (by rw [e1]; simp [single]) hh).1 (by simp)
  refine sat_join (h1 := single b (true, o)) (h2 := h2) ?_ rfl bb ?_ k2
  · intro x y z hy hz
    unfold single at hy
    by_cases hx : x = b
    · rw [hx, none2] at hz; cases hz
    · rw [if_neg hx] at hy; cases hy
  · intro x r o' hx
    unfold single at hx
    by_cases hb : x = b
    · rw [if_pos hb] at hx; cases hx; rw [hb]; exact k1 b false o (by rw [e1]; simp [single])
    · rw [if_neg hb] at hx; cases hx
/-- A block of one's own is given another content. -/
theorem sat_set {w w' : World} {b : Nat} {o o' : Obj} {Γ : List HP} (s : sat w (pt b o :: Γ)) (hb : w'.heap[b]? = some o') (hn : ∀ c, c ≠ b → w'.heap[c]? = w.heap[c]?) :
    sat w' (pt b o' :: Γ) := by
  obtain ⟨h1, h2, c, a, bb, k1, k2⟩ := sat_split s
  have e1 : h1 = single b (false, o) := a
  have none2 : h2 b = none := by
    cases hh : h2 b with
    | none => rfl
    | some y => exact absurd (c b (false, o) y (by rw [e1]; simp [single]) hh).1 (by simp)
  refine sat_join (h1 := single b (false, o')) (h2 := h2) ?_ rfl bb ?_ ?_
  · intro x y z hy hz
    unfold single at hy
    by_cases hx : x = b
    · rw [hx, none2] at hz; cases hz
    · rw [if_neg hx] at hy; cases hy
  · intro x r o'' hx
    unfold single at hx
    by_cases hxb : x = b
    · rw [if_pos hxb] at hx; cases hx; rw [hxb]; exact hb
    · rw [if_neg hxb] at hx; cases hx
  · intro x r o'' hx
    have hxb : x ≠ b := by rintro rfl; rw [none2] at hx; cases hx
    rw [hn x hxb]; exact k2 x r o'' hx
theorem sat_lt {w : World} {b : Nat} {o : Obj} {Γ : List HP} (s : sat w (pt b o :: Γ)) : b < w.heap.size := by
  have := sat_pt s
  rcases Nat.lt_or_ge b w.heap.size with h | h
  · exact h
  · rw [Array.getElem?_eq_none h] at this; cases this
/-- A new block. -/
theorem sat_new {w w' : World} {o : Obj} {Γ : List HP} (s : sat w Γ) (e : w'.heap = w.heap.push o) : sat w' (pt w.heap.size o :: Γ) := by
  obtain ⟨h, b, k⟩ := s
  have hlt : ∀ c x, h c = some x → c < w.heap.size := fun c x hx => by
    have := k c x.1 x.2 hx
    rcases Nat.lt_or_ge c w.heap.size with h | h
    · exact h
    · rw [Array.getElem?_eq_none h] at this; cases this
  refine sat_join (h1 := single w.heap.size (false, o)) (h2 := h) ?_ rfl b ?_ ?_
  · intro x y z hy hz
    unfold single at hy
    by_cases hx : x = w.heap.size
    · have := hlt x z hz; omega
    · rw [if_neg hx] at hy; cases hy
  · intro x r o' hx
    unfold single at hx
    by_cases hxb : x = w.heap.size
    · rw [if_pos hxb] at hx; cases hx; rw [hxb, e]; simp
    · rw [if_neg hxb] at hx; cases hx
  · intro x r o' hx
    have := hlt x _ hx
    rw [e, Array.getElem?_push_lt this]
    rw [← k x r o' hx, Array.getElem?_eq_getElem this]
theorem sat_ne {w : World} {b c : Nat} {o o' : Obj} {Γ : List HP} (s : sat w (pt b o :: pt c o' :: Γ)) : b ≠ c := by
  rintro rfl
  obtain ⟨h1, h2, cc, a, ⟨h3, h4, c34, rfl, a3, _⟩, _, _⟩ := sat_split s
  have := (cc b (false, o) (false, o') (by rw [show h1 = _ from a]; simp [single]) (by rw [show h3 = _ from a3]; simp [Res.un, single])).1
  cases this
theorem sat_ne_ro {w : World} {b c : Nat} {o o' : Obj} {Γ : List HP} (s : sat w (pt b o :: ro c o' :: Γ)) : b ≠ c := by
  rintro rfl
  obtain ⟨h1, h2, cc, a, ⟨h3, h4, c34, rfl, a3, _⟩, _, _⟩ := sat_split s
  have := (cc b (false, o) (true, o') (by rw [show h1 = _ from a]; simp [single]) (by rw [show h3 = _ from a3]; simp [Res.un, single])).1
  cases this
theorem sat_ne_base {w : World} {b : Nat} {o : Obj} {H : Nat → Option Obj} {Γ : List HP} (s : sat w (pt b o :: base H :: Γ)) : H b = none := by
  cases hb : H b with
  | none => rfl
  | some o' =>
    obtain ⟨h1, h2, cc, a, ⟨h3, h4, c34, rfl, a3, _⟩, _, _⟩ := sat_split s
    have := (cc b (false, o) (true, o') (by rw [show h1 = _ from a]; simp [single]) (by rw [show h3 = _ from a3]; simp [Res.un, hb])).1
    cases this
theorem sat_pur {w : World} {φ : Prop} {Γ : List HP} : sat w (pur φ :: Γ) ↔ φ ∧ sat w Γ := by
  constructor
  · intro s
    obtain ⟨h1, h2, _, a, _, _, _⟩ := sat_split s
    exact ⟨a.1, sat_drop s⟩
  · rintro ⟨hφ, h, b, k⟩
    exact sat_join (h1 := Res.emp) (Res.comp_comm (Res.comp_emp h)) ⟨hφ, rfl⟩ b (fun _ _ _ hx => by simp [Res.emp] at hx) k
theorem sat_ex {α : Type} {w : World} {F : α → HP} {Γ : List HP} : sat w (ex F :: Γ) ↔ ∃ x, sat w (F x :: Γ) := by
  constructor
  · intro s
    obtain ⟨h1, h2, c, ⟨x, a⟩, b, k1, k2⟩ := sat_split s
    exact ⟨x, sat_join c a b k1 k2⟩
  · rintro ⟨x, s⟩
    exact sat_mono1 (fun h a => ⟨x, a⟩) s
theorem sat_grp {w : World} {Δ Γ : List HP} : sat w (grp Δ :: Γ) ↔ sat w (Δ ++ Γ) := by
  constructor
  · rintro ⟨h, s, k⟩
    exact ⟨h, (bigs_append h).2 s, k⟩
  · rintro ⟨h, s, k⟩
    exact ⟨h, (bigs_append h).1 s, k⟩
theorem sat_emp_intro {w : World} : sat w [] := ⟨Res.emp, rfl, fun _ _ _ hx => by simp [Res.emp] at hx⟩
/-- The world's whole heap, to be read alone. -/
theorem sat_whole (w : World) : sat w [base fun b => w.heap[b]?] := by
  refine sat_join (h1 := fun b => (w.heap[b]?).map fun o => (true, o)) (h2 := Res.emp) (Res.comp_emp _) rfl rfl ?_ (fun _ _ _ hx => by simp [Res.emp] at hx)
  intro b r o hx
  cases hb : w.heap[b]? with
  | none => simp [hb] at hx
  | some o' => simp [hb] at hx; rw [hx.2]
end Go.Proofs.Ytdganbddgobfdaa
