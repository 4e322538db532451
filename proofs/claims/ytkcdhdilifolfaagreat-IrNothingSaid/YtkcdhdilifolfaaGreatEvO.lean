/- Iterators; calls; the operations that act. -/
import Derived.Test.YtkcdhdilifolfaaGreatEvN
namespace Go.Ev
variable {C : Ctx}

theorem run_getIter {P : Program} {w : World} {c : Nat} {x : Obj} (h : w.heap[c]? = some x) (hx : ∀ a b d, x ≠ .cells a b d) : (Go.getObj c).run P w = .ok x w := by
  simp only [Go.getObj, Sem.run, h]

theorem range_run (hC : C.Ok) {ρ : Ren} {h : Heap} {w : World} (H : HRel ρ h w) {t : TypeId} {x : Value} {v : V} {i : Ty} (hi : ty C t = some i) {n : Nat} {r : Out}
    (hr : (match i.desc, v with
    | .string, .s (.string s) => some (.val (.ptr n 0) (h.set n (.strIter s 0)) (n + 1))
    | .map _ _, .s (.map none) => some (.val (.ptr n 0) (h.set n (.mapIter none 0 [] 0)) (n + 1))
    | .map _ _, .map b => (mapAt h (.map b)).bind fun c => some (.val (.ptr n 0) (h.set n (.mapIter (some b) c.2 [] c.2)) (n + 1))
    | _, _ => none) = some r) (hv : VRel ρ v x) (hn : ρ n = none) :
    ∃ u h' n' y w' ρ', r = .val u h' n' ∧ (Instr.range t x).run C.P w = .ok y w' ∧ Evo ρ h n w ρ' h' n' w' ∧ VRel ρ' u y := by
  obtain ⟨_, sp⟩ := hC.spec hi
  have hU := sp.und
  have fin : ∀ (o : O) (it : Obj), o.own = true → (∀ ρ' : Ren, ρ.le ρ' → ORel ρ' 0 0 o it) → r = .val (.ptr n 0) (h.set n o) (n + 1) → (Instr.range t x).run C.P w = .ok (.pointer (some ⟨w.heap.size, 0, none⟩)) (w.alloc it) →
      ∃ u h' n' y w' ρ', r = .val u h' n' ∧ (Instr.range t x).run C.P w = .ok y w' ∧ Evo ρ h n w ρ' h' n' w' ∧ VRel ρ' u y := by
    intro o it hown ho hr hrun
    obtain ⟨ρ', h1, h2⟩ := Evo.alloc (n := n) H hn (Nat.le_refl _) (n + 1) (by omega) hown ho
    exact ⟨_, _, _, _, _, ρ', hr, hrun, h2, .ptr (off := 0) h1⟩
  split at hr
  · rename_i s hd
    cases hr
    cases hv
    rw [hd] at hU
    refine fin _ (.stringIter s 0) rfl (fun _ _ => .strIter rfl) rfl ?_
    simp [Instr.range, run_underlying hU]
  · rename_i k e hd
    cases hr
    cases hv
    rw [hd] at hU
    refine fin _ (.mapIter none 0 #[] 0) rfl (fun _ _ => .mapIterNil rfl) rfl ?_
    simp [Instr.range, run_underlying hU]
  · rename_i k e b hd
    replace hr := of_bind hr
    obtain ⟨c, hc, hr⟩ := hr
    cases hr
    cases hv with | map hρ =>
    rw [hd] at hU
    obtain ⟨_, ms, g1, g2⟩ := H.map hc hρ
    refine fin _ (.mapIter (some _) c.2 #[] c.2) rfl (fun ρ' hle => .mapIter rfl (hle _ _ hρ)) rfl ?_
    simp [Instr.range, run_underlying hU, run_getMap g1]
  · cases hr

theorem ERels.filter {ρ : Ren} {es : List Ent} {ms : List MapEntry} (h : ERels ρ es ms) (p : Nat → Bool) : ERels ρ (es.filter fun e => p e.born) (ms.filter fun m => p m.born) := by
  induction h with
  | nil => exact .nil
  | cons he hs ih =>
    cases he with | @mk k v n x y h1 h2 =>
    by_cases hp : p n = true
    · simp only [List.filter_cons, hp, if_true]; exact .cons (.mk h1 h2) ih
    · simp only [List.filter_cons, hp, if_false]; exact ih
theorem ERels.all {ρ : Ren} {es : List Ent} {ms : List MapEntry} (h : ERels ρ es ms) (p : Nat → Bool) : (es.all fun e => p e.born) = ms.all fun m => p m.born := by
  induction h with
  | nil => rfl
  | cons he hs ih => cases he with | mk h1 h2 => simp [ih]

theorem next_run (hC : C.Ok) {ρ : Ren} {h : Heap} {w : World} (H : HRel ρ h w) {p : Nat × Nat} {c sh ex : Nat} (hρ : ρ p.1 = some (c, sh, ex)) (hp : p.2 = 0) {isString : Bool} {t : TypeId} {n : Nat} {r : Out}
    (hr : (match h.get p.1, isString with
      | some (.strIter s pos), true =>
        bif Nat.blt pos s.size then
          let d := Utf8.decode s pos
          some (.val (.tup [.s (.bool true), .s (goInt pos), .s (.int .i32 d.1)]) (h.set p.1 (.strIter s (pos + d.2))) n)
        else some (.val (.tup [.s (.bool false)]) h n)
      | some (.mapIter none _ _ _), false => some (.val (.tup [.s (.bool false)]) h n)
      | some (.mapIter (some m) since seen last), false =>
        (mapAt h (.map m)).bind fun c =>
        bif !seen.isEmpty && (!c.1.isEmpty && c.1.all fun e => Nat.ble last e.born) then none else
        match c.1.filter fun e => !seen.contains e.born with
        | [] => some (.val (.tup [.s (.bool false)]) h n)
        | [e] => bif Nat.blt e.born since then
            some (.val (.tup [.s (.bool true), e.k, e.v]) (h.set p.1 (.mapIter (some m) since (seen ++ [e.born]) c.2)) n) else none
        | _ => none
      | _, _ => none) = some r) :
    ∃ u h' y w', r = .val u h' n ∧ (Instr.next (.pointer (some ⟨c, p.2 + sh, none⟩)) isString t).run C.P w = .ok y w' ∧ Evo ρ h n w ρ h' n w' ∧ VRel ρ u y := by
  have hover : VRel ρ (.tup [.s (.bool false)]) (.tuple #[.bool false]) := by simpa using VRel.tup (ρ := ρ) (.cons (.s (.bool false)) .nil)
  rw [hp]
  split at hr
  · rename_i s pos hg
    obtain ⟨x, h1, h2⟩ := H.at hg hρ
    cases h2 with | strIter hs =>
    subst hs
    by_cases hlt : pos < s.size
    · rw [show Nat.blt pos s.size = true from by simpa using hlt] at hr
      simp only [cond_true] at hr
      cases hr
      refine ⟨_, _, .tuple #[.bool true, goInt pos, .int .i32 (Utf8.decode s pos).1], _, rfl, ?_, Evo.turn H n hg hρ rfl rfl (.strIter (pos := pos + (Utf8.decode s pos).2) rfl), ?_⟩
      · simp only [Instr.next, Nat.add_zero, Sem.run_bind, run_getIter h1 (by simp), Result.andThen_ok, Sem.run_ite, if_pos hlt]
        rw [run_setMap _ h1 (by simp)]
        rfl
      · simpa using VRel.tup (ρ := ρ) (.cons (.s (.bool true)) (.cons (.s (goInt pos)) (.cons (.s (.int .i32 (Utf8.decode s pos).1)) .nil)))
    · rw [show Nat.blt pos s.size = false from by simpa using hlt] at hr
      simp only [cond_false] at hr
      cases hr
      refine ⟨_, _, .tuple #[.bool false], w, rfl, ?_, .refl n H, hover⟩
      simp only [Instr.next, Nat.add_zero, Sem.run_bind, run_getIter h1 (by simp), Result.andThen_ok, Sem.run_ite, if_neg hlt, Sem.run_pure]
  · rename_i since seen last hg
    obtain ⟨x, h1, h2⟩ := H.at hg hρ
    cases hr
    cases h2 with | mapIterNil hs =>
    subst hs
    refine ⟨_, _, .tuple #[.bool false], w, rfl, ?_, .refl n H, hover⟩
    simp only [Instr.next, Nat.add_zero, Sem.run_bind, run_getIter h1 (by simp), Result.andThen_ok, Sem.run_pure]
  · rename_i m since seen last hg
    obtain ⟨x, h1, h2⟩ := H.at hg hρ
    replace hr := of_bind hr
    obtain ⟨q, hq, hr⟩ := hr
    replace hr := of_cond_none hr
    obtain ⟨gq, hr⟩ := hr
    cases h2 with | @mapIter _ mc s0 x0 _ _ _ hs hm =>
    subst hs
    obtain ⟨_, ms, g1, g2⟩ := H.map hq hm
    have hfil := g2.filter (fun b => !seen.contains b)
    have hall := g2.all (fun b => Nat.ble last b)
    have hlen := g2.length
    have hcond : (!seen.toArray.isEmpty && !ms.isEmpty && ms.all (fun e => decide (e.born ≥ last))) = false := by
      rw [← gq]
      have e1 : seen.toArray.isEmpty = seen.isEmpty := by cases seen <;> rfl
      have e2 : ms.isEmpty = q.1.isEmpty := by
        rw [Bool.eq_iff_iff, Array.isEmpty_iff_size_eq_zero, List.isEmpty_iff_length_eq_zero, hlen]; simp
      have e3 : (ms.all fun e => decide (e.born ≥ last)) = q.1.all fun e => Nat.ble last e.born := by
        rw [hall, ← Array.all_toList]
        congr 1
        funext m
        rw [Bool.eq_iff_iff]; simp
      rw [e1, e2, e3]
      cases seen.isEmpty <;> cases q.1.isEmpty <;> simp
    have hleft : (ms.filter fun e => !seen.toArray.contains e.born).toList = ms.toList.filter fun m => !seen.contains m.born := by simp
    have hL : ∀ L : List MapEntry, (ms.filter fun e => !seen.toArray.contains e.born).toList = L → (ms.filter fun e => !seen.toArray.contains e.born) = L.toArray := by
      intro L h; rw [← h]
    have hrun : ∀ L : List MapEntry, (ms.toList.filter fun m => !seen.contains m.born) = L →
        (Instr.next (.pointer (some ⟨c, 0 + 0, none⟩)) false t).run C.P w =
          (do
            let left : Array MapEntry := L.toArray
            let old := left.filter (·.born < since)
            let new := left.filter (·.born ≥ since)
            let candidates := (if old.isEmpty then #[none] else #[]) ++ (old ++ new).map some
            match candidates[← choose (.mapNext candidates.size)]? with
            | some (some e) =>
              setObj c (.mapIter (some mc) since (seen.toArray.push e.born) q.2)
              pure (.tuple #[.bool true, e.key, e.val])
            | some none => pure (.tuple #[.bool false])
            | none => stuck "Next: no such candidate" : Sem Value).run C.P w := by
      intro L h
      rw [← hL L (by rw [hleft, h])]
      simp only [Instr.next, Nat.zero_add, Sem.run_bind, run_getIter h1 (by simp), Result.andThen_ok, run_getMap g1, hcond]
      simp only [Bool.false_eq_true, if_false, Sem.run_bind]
      rfl
    generalize hLL : (ms.toList.filter fun m => !seen.contains m.born) = L at hfil
    have hrun := hrun L hLL
    split at hr
    · rename_i he
      rw [he] at hfil
      cases hfil
      cases hr
      refine ⟨_, _, .tuple #[.bool false], w, rfl, ?_, .refl n H, hover⟩
      rw [hrun]
      simp [Question.forced]
    · rename_i e he
      rw [he] at hfil
      replace hr := of_cond_some hr
      obtain ⟨hb, hr⟩ := hr
      cases hr
      cases hfil with | cons hm' hn =>
      cases hn
      cases hm' with | @mk k v b x y hk hv =>
      have hb' : b < since := by simpa using hb
      refine ⟨_, _, .tuple #[.bool true, x, y], _, rfl, ?_, Evo.turn H n hg hρ rfl rfl (.mapIter (seen := seen ++ [b]) rfl hm), ?_⟩
      · rw [hrun]
        simp [Question.forced, hb', run_setMap _ h1]
      · simpa using VRel.tup (ρ := ρ) (.cons (.s (.bool true)) (.cons hk (.cons hv .nil)))
    · cases hr
  · cases hr

end Go.Ev
