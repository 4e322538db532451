/- A drawn region as a whole. -/
import Derived.Test.YtkcdhdilifolfaaGreatEvY
namespace Go.Ev
variable {C : Ctx}

theorem Evo.bump {ρ ρ' : Ren} {h h' : Heap} {n n' n'' : Nat} {w w' : World} (e : Evo ρ h n w ρ' h' n' w') (hn : n' ≤ n'') : Evo ρ h n w ρ' h' n'' w' :=
  ⟨e.le, fun b x h1 h2 => by have := e.new b x h1 h2; omega, by have := e.num; omega, e.hrel, e.size, e.frame, e.dom, e.ros, e.side⟩

/-- How many are not listed. -/
def unl (m : Nat) (listed : Array Bool) : Nat := (List.range m).countP fun j => !(listed.getD j false)

theorem countP_less {α : Type} {p q : α → Bool} : ∀ {l : List α}, (∀ x ∈ l, q x = true → p x = true) → (∃ x ∈ l, p x = true ∧ q x = false) → l.countP q < l.countP p
  | [], _, ⟨x, hx, _⟩ => by simp at hx
  | y :: l, h, ⟨x, hx, h1, h2⟩ => by
    have hle : l.countP q ≤ l.countP p := List.countP_mono_left fun z hz => h z (by simp [hz])
    rw [List.countP_cons, List.countP_cons]
    rcases List.mem_cons.1 hx with rfl | hx
    · rw [h1, h2]; simp; omega
    · have ih := countP_less (l := l) (fun z hz => h z (by simp [hz])) ⟨x, hx, h1, h2⟩
      have := h y (by simp)
      cases hq : q y <;> cases hp : p y <;> simp_all <;> omega

theorem unl_set {m i : Nat} {listed : Array Bool} (hi : i < m) (hs : i < listed.size) (hu : listed.getD i false = false) : unl m (listed.setIfInBounds i true) < unl m listed := by
  unfold unl
  refine countP_less (fun x _ h => ?_) ⟨i, by simpa using hi, by simp [hu], by rw [getD_set hs, if_pos rfl]; rfl⟩
  rw [getD_set hs] at h
  by_cases e : x = i
  · rw [if_pos e] at h; cases h
  · rw [if_neg e] at h; exact h

theorem unl_zero {m : Nat} {listed : Array Bool} (h : unl m listed = 0) : ∀ j, j < m → listed.getD j false = true := by
  intro j hj
  unfold unl at h
  rw [List.countP_eq_zero] at h
  have := h j (by simpa using hj)
  simpa using this

section
variable {L : List Oper} {p : Plan} {s : St} {M : List Made} {G : List Stage} {R : List Rd} {tmA : Nat → Tm} {vA : Nat → V}
variable {ρ0 : Ren} {w0 : World} {ds : List Deferred}

theorem region_walk (hC : C.Ok) (g : Reg C L p s M G R tmA vA) (hg0 : GRel C ρ0) {ops : Array Oper} (hops : ops.toList = L) {r : Option Nat} {N : Nat} {Q : Exit → Act → World → Prop}
    (hQ : ∀ mask k ρ st listed a w, Inv C L p s M G vA ρ0 w0 ds mask k ρ st listed a w → (∀ j, j < L.length → listed.getD j false = true) → Q .normal a w) :
    ∀ (fuel mask k : Nat) (ρ : Ren) (st : Stage) (listed : Array Bool) (a : Act) (w : World), Inv C L p s M G vA ρ0 w0 ds mask k ρ st listed a w → unl L.length listed ≤ fuel →
      wpAnyIn (Wd r) N C.P .any ops Q fuel listed a w := by
  have none : ∀ (listed : Array Bool), listed.size = L.length → (∀ j, j < L.length → listed.getD j false = true) → Region.ready .any ops listed = [] := by
    intro listed hs hall
    refine List.eq_nil_iff_forall_not_mem.2 fun i hi => ?_
    obtain ⟨hu, o, ho, _⟩ := mem_ready.1 hi
    have hL : L[i]? = some o := by rw [← hops, Array.getElem?_toList]; exact ho
    have hlt : i < L.length := (List.getElem?_eq_some_iff.1 hL).1
    have h1 := hall i hlt
    have hs' : i < listed.size := by omega
    have e : listed.getD i true = listed.getD i false := by simp [hs']
    rw [e, h1] at hu; cases hu
  have all : ∀ (listed : Array Bool), listed.size = L.length → Region.ready .any ops listed = [] → ∀ j, j < L.length → listed.getD j false = true := by
    intro listed hs hnil j
    induction j using Nat.strongRecOn with
    | _ j ih =>
      intro hj
      cases hu : listed.getD j false with
      | true => rfl
      | false =>
        exfalso
        have hL : L[j]? = some L[j] := by simp [hj]
        have hmem : j ∈ Region.ready .any ops listed := by
          refine mem_ready.2 ⟨?_, L[j], by rw [← Array.getElem?_toList, hops]; exact hL, fun e he hb => ?_⟩
          · have hs' : j < listed.size := by omega
            have e : listed.getD j true = listed.getD j false := by simp [hs']
            rw [e]; exact hu
          · have := g.plan.preds.back j _ hL e (by simpa using he) hb
            exact ih e.on this (by omega)
        rw [hnil] at hmem; cases hmem
  intro fuel
  induction fuel with
  | zero =>
    intro mask k ρ st listed a w I hu
    have hall := unl_zero (Nat.le_zero.1 hu)
    exact ⟨none listed I.lsize hall, hQ _ _ _ _ _ _ _ I hall⟩
  | succ fuel ih =>
    intro mask k ρ st listed a w I hu
    refine ⟨fun hnil => hQ _ _ _ _ _ _ _ I (all listed I.lsize hnil), fun i hi => ?_⟩
    refine region_step hC g hg0 I hops hi fun mask' k' ρ' st' a' w' I' => ih _ _ _ _ _ _ _ I' ?_
    obtain ⟨hu0, o, ho, _⟩ := mem_ready.1 hi
    have hL : L[i]? = some o := by rw [← hops, Array.getElem?_toList]; exact ho
    have hlt : i < L.length := (List.getElem?_eq_some_iff.1 hL).1
    have hs' : i < listed.size := by rw [I.lsize]; exact hlt
    have e : listed.getD i true = listed.getD i false := by simp [hs']
    have := unl_set hlt hs' (by rw [← e]; exact hu0)
    omega
end

theorem region_sound (hC : C.Ok) (hmix : C.P.follows .mixedOrders = true) {id : Nat} {ops : Array Oper} {s : St} {p : Plan} {d : DS} {t : Stage} {k : Nat} (hp : planOf C ops.toList = some p)
    (hact : ∀ k' < k, ∀ o tm h n r, actR C k' o tm h n = some r → ActSound C o tm h n r.1 r.2.1 r.2.2)
    (hd : drawR C k p ops.toList ops.toList 0 s.n { tm := s.tm, stages := [{ h := s.h, joined := 0, n := s.n + ops.size }], made := [], rds := [] } = some d)
    (ht : topStage d.stages = some t) (hch : checkReads C p d.made d.stages d.rds = true) (rnd : Option Nat) :
    CodeSound C rnd (.region id ops true) s .normal { tm := d.tm, h := withMade (one ops.size - 1) t.joined d.made t.h, n := t.n, defs := s.defs } := by
  have hplan := planOf_spec hp
  obtain ⟨lm, ls, lr, g1, g2, g3, g4, g5, g6⟩ := draw_facts hplan k hact ops.toList [] 0 0 _ d rfl rfl hd (by simp) rfl
  obtain ⟨tmA, vA, k1, k2, k3⟩ := g6.funs
  simp only [List.append_nil] at g1 g3
  have hsize : ops.size = ops.toList.length := by simp
  have g : Reg C ops.toList p s d.made d.stages.reverse d.rds tmA vA := by
    refine ⟨hplan, k1, fun j o h => (k3 j o h).1, fun j o h => ?_, fun m hm => ?_, ?_, ?_, ?_⟩
    · obtain ⟨_, t', q1, q2⟩ := k3 j o h
      rw [Nat.zero_add] at q1 q2
      exact ⟨t', fun hk => by rw [hplan.acts]; exact (q1 hk).2, q2⟩
    · rw [g1] at hm; exact (g4 m hm).2
    · rw [List.length_reverse, g2, hplan.acts]; simp [g5]
    · rw [g2, ← hsize]; simp
    · intro r hr k st e1 e2 e3
      obtain ⟨v, k1, k2⟩ := checkReads_spec hch r hr k st e1 e2 e3
      exact ⟨v, k1, fun ρ y hy => same_rel k2 hy⟩
  intro ρ a w r S hr N
  refine wpIn_region_any hmix ?_
  have hfin : ∀ mask k ρ' st listed a' w', Inv C ops.toList p s d.made d.stages.reverse vA ρ w.drew a.defers mask k ρ' st listed a' w' → (∀ j, j < ops.toList.length → listed.getD j false = true) →
      Post C ρ s w .normal { tm := d.tm, h := withMade (one ops.size - 1) t.joined d.made t.h, n := t.n, defs := s.defs } .normal a' w' := by
    intro mask k ρ' st listed a' w' I hall
    have hid : ∀ m ∈ d.made, m.id = s.n + m.i := fun m hm => (g.made m hm).2
    have hmlt : ∀ m ∈ d.made, m.i < ops.toList.length := fun m hm => (g.made m hm).1
    obtain ⟨tail, htail⟩ := topStage_some ht
    have hkq : k = tail.length := by
      have hl := g.glen
      rw [List.length_reverse, htail, List.length_cons] at hl
      have := I.kq
      by_cases e : k = p.acts.length
      · omega
      · exfalso
        have hlt : k < p.acts.length := by omega
        obtain ⟨x0, hx⟩ : ∃ x0, p.acts[k]? = some x0 := ⟨_, List.getElem?_eq_getElem hlt⟩
        have hmem := List.mem_of_getElem? hx
        rw [hplan.acts] at hmem
        obtain ⟨q, o, e1, e2, _⟩ := actsOf_mem.1 hmem
        have hxl : x0 < ops.toList.length := by
          have := (List.getElem?_eq_some_iff.1 e2).1
          omega
        have := (I.acts k _ hx).1 (hall _ hxl)
        omega
    have hst : st = t := by
      have := I.stage
      rw [hkq, htail] at this
      have e := rev_get [] tail t
      simp only [List.nil_append] at e
      rw [e] at this; cases this; rfl
    subst hst
    have hevo : Evo ρ s.h s.n w ρ' (withMade (one ops.size - 1) st.joined d.made st.h) st.n w' := by
      refine ((Evo.drew S.heap s.n).trans I.evo).congr fun b => ?_
      rw [withMade_get hid, withMade_get hid]
      have : ovr (one ops.size - 1) st.joined d.made s.n b = ovr mask st.joined d.made s.n b := by
        unfold ovr
        cases ho : mO d.made (b - s.n) with
        | none =>
          cases (Nat.ble s.n b && (bit (one ops.size - 1) (b - s.n) && !bit st.joined (b - s.n))) <;> cases (Nat.ble s.n b && (bit mask (b - s.n) && !bit st.joined (b - s.n))) <;> rfl
        | some o =>
          have hlt := mO_lt hmlt ho
          rw [bit_all (by omega), I.masked, hall _ hlt]
      rw [this]
    refine ⟨rfl, ρ', hevo, ⟨?_, hevo.hrel, I.fr, S.glob.mono hevo.le, by rw [I.defs]; exact S.defs.mono hevo.le⟩⟩
    obtain ⟨q1, q2⟩ := g.tm_get _ (Nat.le_refl _)
    rw [k2] at q1 q2
    refine ⟨by rw [I.tsize, q1], fun x => ?_⟩
    have : d.tm.get x = cur ops.toList s vA (fun q => listed.getD q false) x := by
      rw [q2]
      unfold cur
      split
      · rename_i q hq
        obtain ⟨q', o', e1, e2, _⟩ := writer_some hq
        have hlt := (List.getElem?_eq_some_iff.1 e2).1
        have hql : q < ops.toList.length := by omega
        show (bif Nat.blt q ops.toList.length then vA q else s.tm.get x) = bif listed.getD q false then vA q else s.tm.get x
        rw [hall q hql, show Nat.blt q ops.toList.length = true from by simpa using hql]
      · rfl
    show VRel ρ' (d.tm.get x) _
    rw [this]; exact I.tm x
  refine region_walk (ρ0 := ρ) (w0 := w.drew) (ds := a.defers) hC g S.glob rfl hfin ops.size 0 0 ρ { h := s.h, joined := 0, n := s.n + ops.size } (Array.replicate ops.size false) a w.drew ?_ ?_
  · have hrep : ∀ j, (Array.replicate ops.size false).getD j false = false := by intro j; simp [Array.getElem?_replicate]; split <;> rfl
    refine ⟨fun j => (by rw [bit_zero, hrep]), by simp, fun i j h => (by rw [hrep] at h; cases h), fun x y _ => (by rw [hrep]; simp), Nat.zero_le _, by rw [hsize]; exact g.g0, by rw [← hsize]; exact Nat.le_refl _,
      S.tm.size, fun x => ?_, rfl, ?_, fun j hj x hx => ?_, fun j h => (by rw [bit_zero] at h; cases h), fun j hj _ => ?_, fun b hb => S.fr b (by simp at hb; omega)⟩
    · have : cur ops.toList s vA (fun q => (Array.replicate ops.size false).getD q false) x = s.tm.get x := by
        unfold cur
        split
        · simp only [hrep]; rfl
        · rfl
      rw [this]; exact S.tm.get x
    · refine ((Evo.refl s.n (S.heap.drew)).congr fun b => ?_).bump (Nat.le_add_right _ _)
      rw [withMade_get (fun m hm => (g.made m hm).2)]
      unfold ovr
      rw [bit_zero]
      simp
    · rw [S.fr _ (Nat.le_add_right _ _)] at hx; cases hx
    · show s.h.get (s.n + j) = none
      cases hx : s.h.get (s.n + j) with
      | none => rfl
      | some o =>
        obtain ⟨c, sh, ex, x, q1, _⟩ := S.heap.obj _ o hx
        rw [S.fr _ (Nat.le_add_right _ _)] at q1; cases q1
  · unfold unl
    exact Nat.le_trans (List.countP_le_length) (by simp)

end Go.Ev
