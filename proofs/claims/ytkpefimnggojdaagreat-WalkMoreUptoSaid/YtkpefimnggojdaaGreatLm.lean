/-
  A tree's memory, and a plain tree, say the same; what each call leaves of that. No program's code here.
-/
import Derived.Test.YtkpefimnggojdaaGreatPx
import Derived.Test.YtkpefimnggojdaaGreatLw
set_option linter.all false
namespace Go.Proofs.YtkpefimnggojdaaGreat.VX
open Go Pl

structure Mt (S : St) (T : PT) : Prop where
  at_ : ∀ q, T.at_ q = (S.at_ q).map fun b => (S.nd b).ino
  th : ∀ q b, S.at_ q = some b → T.th (S.nd b).ino = ⟨(S.nd b).kind, (S.nd b).mt, (S.nd b).target, (S.nd b).data⟩
  inj : ∀ p q b c, S.at_ p = some b → S.at_ q = some c → (S.nd b).ino = (S.nd c).ino → b = c
  next : S.next = T.next
  links : ∀ q b, S.at_ q = some b → (S.nd b).links = if (S.nd b).kind = 1 then (cntL T.L (S.nd b).ino : Int) else 1

theorem Mt.at_some {S : St} {T : PT} (h : Mt S T) {q : List Bytes} {b : Nat} (hb : S.at_ q = some b) : T.at_ q = some (S.nd b).ino := by rw [h.at_, hb]; rfl
theorem Mt.at_none {S : St} {T : PT} (h : Mt S T) {q : List Bytes} : T.at_ q = none ↔ S.at_ q = none := by rw [h.at_]; simp
theorem Mt.back {S : St} {T : PT} (h : Mt S T) {q : List Bytes} {i : Int} (hi : T.at_ q = some i) : ∃ b, S.at_ q = some b ∧ (S.nd b).ino = i := by
  rw [h.at_] at hi; simpa using hi
theorem Mt.mem {S : St} {T : PT} (h : Mt S T) {q : List Bytes} {b : Nat} (hb : S.at_ q = some b) : (q, (S.nd b).ino) ∈ T.L := look1_mem (h.at_some hb)
theorem Mt.look {S : St} {T : PT} (h : Mt S T) (p : Bytes) : lookT T p = ((lookA S p).1.map fun b => (S.nd b).ino, (lookA S p).2.2) := by
  unfold lookT lookA
  by_cases hr : rightB p = false
  · rw [if_pos hr, if_pos hr]; rfl
  · rw [if_neg hr, if_neg hr]
    by_cases hp : p = []
    · rw [if_pos hp, if_pos hp, h.at_]
    · rw [if_neg hp, if_neg hp, h.at_]
      cases hd : S.at_ (split (parentP p)) with
      | none => rfl
      | some d =>
        simp only [Option.map_some]
        rw [h.th _ _ hd]
        by_cases hk : (S.nd d).kind ≠ 2
        · rw [if_pos hk, if_pos hk]; rfl
        · rw [if_neg hk, if_neg hk, h.at_]
theorem Mt.there {S : St} {T : PT} (h : Mt S T) (p : Bytes) : thereT T p = ((thereA S p).1.map fun b => (S.nd b).ino, (thereA S p).2.2) := by
  have e0 : thereA S p = if (lookA S p).2.2 = 0 ∧ (lookA S p).1 = Option.none then ((lookA S p).1, (lookA S p).2.1, 10) else lookA S p := rfl
  unfold thereT
  rw [e0, h.look]
  by_cases hc : (lookA S p).2.2 = 0 ∧ (lookA S p).1 = Option.none
  · rw [if_pos hc, if_pos ⟨hc.1, by rw [hc.2]; rfl⟩, hc.2]; rfl
  · rw [if_neg hc, if_neg (fun hh => hc ⟨hh.1, by simpa using hh.2⟩)]
theorem Mt.fresh {S : St} {T : PT} (h : Mt S T) (p : Bytes) : freshT T p = (freshA S p).2 := by
  unfold freshT freshA
  rw [h.look]
  by_cases hc : (lookA S p).2.2 = 0 ∧ (lookA S p).1 ≠ Option.none
  · rw [if_pos hc, if_pos ⟨hc.1, by simpa using hc.2⟩]
  · rw [if_neg hc, if_neg (fun hh => hc ⟨hh.1, by simpa using hh.2⟩)]
theorem Mt.file {S : St} {T : PT} (h : Mt S T) {q : List Bytes} {b : Nat} (hb : S.at_ q = some b) : fileT (T.th (S.nd b).ino) = fileE (S.nd b) := by rw [h.th _ _ hb]; rfl
theorem Mt.kind {S : St} {T : PT} (h : Mt S T) {q : List Bytes} {b : Nat} (hb : S.at_ q = some b) : (T.th (S.nd b).ino).kind = (S.nd b).kind := by rw [h.th _ _ hb]

theorem cntL_append (A B : List (List Bytes × Int)) (i : Int) : cntL (A ++ B) i = cntL A i + cntL B i := by simp [cntL]
theorem cntL_none {L : List (List Bytes × Int)} {i : Int} (h : ∀ x ∈ L, x.2 ≠ i) : cntL L i = 0 := by
  unfold cntL
  rw [List.length_eq_zero_iff, List.filter_eq_nil_iff]
  intro x hx; simpa using h x hx
theorem cntL_map (f : List Bytes → List Bytes) (L : List (List Bytes × Int)) (i : Int) : cntL (L.map fun x => (f x.1, x.2)) i = cntL L i := by
  induction L with
  | nil => rfl
  | cons x r ih =>
    unfold cntL at ih ⊢
    simp only [List.map_cons, List.filter_cons]
    split
    · simp only [List.length_cons, ih]
    · exact ih
theorem cut_none {L : List (List Bytes × Int)} {p : List Bytes} (h : ∀ j, (p, j) ∉ L) : cutName L p = L := by
  unfold cutName
  rw [List.filter_eq_self]
  intro x hx
  simp only [Bool.not_eq_true', decide_eq_false_iff_not]
  intro e; exact h x.2 (by rw [← e]; exact hx)
theorem cnt_cut {p : List Bytes} {j : Int} (i : Int) : ∀ {L : List (List Bytes × Int)}, (L.map (·.1)).Nodup → (p, j) ∈ L → cntL (cutName L p) i + (if i = j then 1 else 0) = cntL L i
  | [], _, h => by cases h
  | (a, k) :: r, hn, h => by
    rw [List.map_cons, List.nodup_cons] at hn
    by_cases e : a = p
    · subst e
      have hk : k = j := by
        rcases List.mem_cons.1 h with e | e
        · injection e with _ e; exact e.symm
        · exact absurd (List.mem_map.2 ⟨_, e, rfl⟩) hn.1
      subst hk
      have hr : cutName r a = r := cut_none fun j hj => hn.1 (List.mem_map.2 ⟨_, hj, rfl⟩)
      have e1 : cutName ((a, k) :: r) a = r := by
        show List.filter _ _ = _
        rw [List.filter_cons, if_neg (by simp)]; exact hr
      rw [e1]
      unfold cntL
      rw [List.filter_cons]
      by_cases e2 : i = k
      · subst e2; simp
      · rw [if_neg e2, if_neg (by simpa using fun e => e2 e.symm)]; rfl
    · have hm : (p, j) ∈ r := by
        rcases List.mem_cons.1 h with e2 | e2
        · injection e2 with e2; exact absurd e2.symm e
        · exact e2
      have ih := cnt_cut i hn.2 hm
      have e1 : cutName ((a, k) :: r) p = (a, k) :: cutName r p := by
        show List.filter _ _ = _
        rw [List.filter_cons, if_pos (by simpa using e)]; rfl
      rw [e1]
      unfold cntL at ih ⊢
      simp only [List.filter_cons]
      split
      · simp only [List.length_cons]; omega
      · exact ih

/-! What the calls do. -/
theorem Mt.add {S S' : St} {T : PT} {n : Nat} (h : Mt S T) (hw : Wf T n) {p : Bytes} {x : Nd} {y : Th} (hno : S.at_ (split p) = Option.none) (hx : x.ino = S.next ∧ x.links = 1) (hy : y = ⟨x.kind, x.mt, x.target, x.data⟩) (ha : Added S (split p) x S') : Mt S' (makeT T p y) := by
  obtain ⟨nb, mb, hf, rfl⟩ := ha
  have at' : ∀ q, (addS S (split p) nb mb x).at_ q = if q = split p then Option.some nb else S.at_ q := fun _ => rfl
  have nd1 : (addS S (split p) nb mb x).nd nb = x := upN_self _ _ _
  have nd2 : ∀ {b}, b ≠ nb → (addS S (split p) nb mb x).nd b = S.nd b := fun hb => upN_ne _ _ hb
  have ne : ∀ {q b}, S.at_ q = Option.some b → b ≠ nb := fun hb e => hf _ (e ▸ hb)
  have lt : ∀ {q b}, S.at_ q = Option.some b → (S.nd b).ino < T.next := fun hb => (hw.lt _ (h.mem hb)).2
  have old : ∀ {q b}, (addS S (split p) nb mb x).at_ q = Option.some b → (q = split p ∧ b = nb) ∨ (q ≠ split p ∧ S.at_ q = Option.some b) := fun {q b} hb => by
    rw [at'] at hb
    by_cases e : q = split p
    · rw [if_pos e] at hb; injection hb with hb; exact .inl ⟨e, hb.symm⟩
    · rw [if_neg e] at hb; exact .inr ⟨e, hb⟩
  have hc : ∀ i, i < T.next → cntL (makeT T p y).L i = cntL T.L i := fun i hi => by
    show cntL (T.L ++ _) i = _
    rw [cntL_append]
    have : cntL [(split p, T.next)] i = 0 := cntL_none (by intro z hz; rw [List.mem_singleton.1 hz]; show T.next ≠ i; omega)
    omega
  refine ⟨fun q => ?_, fun q b hb => ?_, fun q r b c hb hc' e => ?_, by show S.next + 1 = T.next + 1; rw [h.next], fun q b hb => ?_⟩
  · show look1 (T.L ++ _) q = _
    rw [look1_append, at']
    have e0 := h.at_ q
    unfold PT.at_ at e0
    rw [e0]
    by_cases e : q = split p
    · subst e
      rw [hno, if_pos rfl]
      simp only [Option.map_none, look1, if_pos, Option.map_some, nd1, hx.1, h.next]
    · rw [if_neg e]
      cases hb : S.at_ q with
      | none => simp only [Option.map_none, look1]; rw [if_neg (fun h => e h.symm)]
      | some b => simp only [Option.map_some]; rw [nd2 (ne hb)]
  · rcases old hb with ⟨-, rfl⟩ | ⟨-, hb⟩
    · rw [nd1]; show upI T.th T.next y _ = _
      rw [hx.1, h.next]; unfold upI; rw [if_pos rfl, hy]
    · rw [nd2 (ne hb)]
      show upI T.th T.next y _ = _
      unfold upI; rw [if_neg (by have := lt hb; omega)]
      exact h.th _ _ hb
  · rcases old hb with ⟨-, e1⟩ | ⟨-, h1⟩ <;> rcases old hc' with ⟨-, e2⟩ | ⟨-, h2⟩
    · rw [e1, e2]
    · rw [e1, nd1, nd2 (ne h2), hx.1, h.next] at e; have := lt h2; omega
    · rw [e2, nd1, nd2 (ne h1), hx.1, h.next] at e; have := lt h1; omega
    · rw [nd2 (ne h1), nd2 (ne h2)] at e; exact h.inj _ _ _ _ h1 h2 e
  · rcases old hb with ⟨-, rfl⟩ | ⟨-, hb⟩
    · rw [nd1, hx.2]
      split
      · have : cntL (makeT T p y).L x.ino = 1 := by
          show cntL (T.L ++ _) x.ino = 1
          rw [cntL_append, cntL_none (L := T.L) (fun z hz => by have := (hw.lt z hz).2; rw [hx.1, h.next]; omega), hx.1, h.next]
          simp [cntL]
        rw [this]; rfl
      · rfl
    · rw [nd2 (ne hb), hc _ (lt hb)]; exact h.links _ _ hb
theorem Mt.reset {S S' : St} {T : PT} (h : Mt S T) {q : List Bytes} {b : Nat} {n : Nd} {y : Th} (hb : S.at_ q = Option.some b) (hi : n.ino = (S.nd b).ino) (hk : n.kind = (S.nd b).kind) (hl : n.links = (S.nd b).links) (hy : y = ⟨n.kind, n.mt, n.target, n.data⟩) (ha : Reset S b n S') :
    Mt S' ⟨T.L, upI T.th (S.nd b).ino y, T.next⟩ := by
  obtain ⟨dv, rfl⟩ := ha
  have nd1 : (setS S b n dv).nd b = n := upN_self _ _ _
  have nd2 : ∀ {c}, c ≠ b → (setS S b n dv).nd c = S.nd c := fun hc => upN_ne _ _ hc
  have ino : ∀ c, ((setS S b n dv).nd c).ino = (S.nd c).ino := fun c => by
    by_cases e : c = b
    · rw [e, nd1, hi]
    · rw [nd2 e]
  refine ⟨fun p => ?_, fun p c hc => ?_, fun p r c d hc hd e => ?_, h.next, fun p c hc => ?_⟩
  · have := h.at_ p
    show look1 T.L p = _
    unfold PT.at_ at this
    rw [this]
    simp only [ino]; rfl
  · have hc : S.at_ p = Option.some c := hc
    rw [ino]
    show upI T.th _ y _ = _
    by_cases e : c = b
    · subst e; rw [nd1]; unfold upI; rw [if_pos rfl, hy]
    · rw [nd2 e]
      unfold upI; rw [if_neg (fun e2 => e (h.inj _ _ _ _ hc hb e2))]
      exact h.th _ _ hc
  · rw [ino, ino] at e; exact h.inj _ _ _ _ hc hd e
  · have hc : S.at_ p = Option.some c := hc
    rw [ino]
    show _ = if _ then (cntL T.L (S.nd c).ino : Int) else 1
    by_cases e : c = b
    · subst e; rw [nd1, hl, hk]; exact h.links _ _ hc
    · rw [nd2 e]; exact h.links _ _ hc
theorem Mt.linked {S S' : St} {T : PT} {n0 : Nat} (h : Mt S T) (hw : Wf T n0) {old p : List Bytes} (hno : S.at_ p = Option.none) (ha : Linked S old p S') : ∃ b, S.at_ old = Option.some b ∧ Mt S' ⟨T.L ++ [(p, (S.nd b).ino)], T.th, T.next⟩ := by
  obtain ⟨b, hb, hf, rfl⟩ := ha
  refine ⟨b, hb, ?_⟩
  obtain ⟨n, hn⟩ : ∃ n, n = { S.nd b with links := (S.nd b).links + 1 } := ⟨_, rfl⟩
  rw [← hn]
  have at' : ∀ q, (setS (nameS S p b) b n (S.dv b)).at_ q = if q = p then Option.some b else S.at_ q := fun _ => rfl
  have nd1 : (setS (nameS S p b) b n (S.dv b)).nd b = n := upN_self _ _ _
  have nd2 : ∀ {c}, c ≠ b → (setS (nameS S p b) b n (S.dv b)).nd c = S.nd c := fun hc => upN_ne _ _ hc
  have ino : ∀ c, ((setS (nameS S p b) b n (S.dv b)).nd c).ino = (S.nd c).ino := fun c => by
    by_cases e : c = b
    · rw [e, nd1, hn]
    · rw [nd2 e]
  have old' : ∀ {q c}, (setS (nameS S p b) b n (S.dv b)).at_ q = Option.some c → ∃ z, S.at_ z = Option.some c := fun {q c} hc => by
    rw [at'] at hc
    by_cases e : q = p
    · rw [if_pos e] at hc; injection hc with hc; exact ⟨old, hc ▸ hb⟩
    · rw [if_neg e] at hc; exact ⟨q, hc⟩
  refine ⟨fun q => ?_, fun q c hc => ?_, fun q r c d hc hd e => ?_, h.next, fun q c hc => ?_⟩
  · show look1 (T.L ++ _) q = _
    rw [look1_append, at']
    have e0 := h.at_ q
    unfold PT.at_ at e0
    rw [e0]
    by_cases e : q = p
    · subst e
      rw [hno, if_pos rfl]
      simp only [Option.map_none, look1, if_pos, Option.map_some, ino]
    · rw [if_neg e]
      cases hb : S.at_ q with
      | none => simp only [Option.map_none, look1]; rw [if_neg (fun h => e h.symm)]
      | some b => simp only [Option.map_some, ino]
  · obtain ⟨z, hz⟩ := old' hc
    rw [ino]
    show T.th _ = _
    rw [h.th _ _ hz]
    by_cases e : c = b
    · rw [e, nd1, hn]
    · rw [nd2 e]
  · obtain ⟨y, hy⟩ := old' hc
    obtain ⟨z, hz⟩ := old' hd
    rw [ino, ino] at e; exact h.inj _ _ _ _ hy hz e
  · obtain ⟨z, hz⟩ := old' hc
    rw [ino]
    show _ = if _ then (cntL (T.L ++ _) (S.nd c).ino : Int) else 1
    rw [cntL_append]
    have hl := h.links _ _ hz
    by_cases e : c = b
    · subst e
      rw [nd1, hn]
      have hk : (S.nd c).kind = 1 ∨ (S.nd c).kind ≠ 1 := by omega
      show (S.nd c).links + 1 = if (S.nd c).kind = 1 then _ else 1
      have e1 : cntL [(p, (S.nd c).ino)] (S.nd c).ino = 1 := by simp [cntL]
      rw [e1]
      rcases hk with hk | hk
      · rw [if_pos hk] at hl ⊢; rw [hl]; simp
      · have := (hw.thing _ (h.mem hz)).kind
        rw [h.th _ _ hz] at this
        unfold fileE at hf
        rcases this with e3 | e3 | e3
        · exact absurd e3 hk
        · rw [if_pos e3] at hf; cases hf
        · rw [if_neg (by omega), if_pos e3] at hf; cases hf
    · rw [nd2 e]
      have : cntL [(p, (S.nd b).ino)] (S.nd c).ino = 0 := cntL_none (by intro z' hz'; rw [List.mem_singleton.1 hz']; exact fun e2 => e (h.inj _ _ _ _ hz hb e2.symm))
      rw [this, hl]; simp

/-- A thing has a name less. -/
def unl (S : St) (b : Nat) : St := setS S b { S.nd b with links := (S.nd b).links - 1 } (S.dv b)
theorem unl_self (S : St) (b : Nat) : (unl S b).nd b = { S.nd b with links := (S.nd b).links - 1 } := upN_self _ _ _
theorem unl_ne (S : St) {b c : Nat} (h : c ≠ b) : (unl S b).nd c = S.nd c := upN_ne _ _ h
theorem unl_same (S : St) (b c : Nat) : ((unl S b).nd c).ino = (S.nd c).ino ∧ ((unl S b).nd c).kind = (S.nd c).kind ∧ ((unl S b).nd c).mt = (S.nd c).mt ∧ ((unl S b).nd c).target = (S.nd c).target ∧ ((unl S b).nd c).data = (S.nd c).data := by
  by_cases e : c = b
  · subst e; rw [unl_self]; exact ⟨rfl, rfl, rfl, rfl, rfl⟩
  · rw [unl_ne S e]; exact ⟨rfl, rfl, rfl, rfl, rfl⟩
theorem Mt.dropped {S : St} {T : PT} {n : Nat} (h : Mt S T) (hw : Wf T n) {p : List Bytes} {b : Nat} (hb : S.at_ p = Option.some b) : Mt (dropS (unl S b) p) ⟨cutName T.L p, T.th, T.next⟩ := by
  have at' : ∀ q, (dropS (unl S b) p).at_ q = if q = p then Option.none else S.at_ q := fun _ => rfl
  have old : ∀ {q c}, (dropS (unl S b) p).at_ q = Option.some c → q ≠ p ∧ S.at_ q = Option.some c := fun {q c} hc => by
    rw [at'] at hc
    by_cases e : q = p
    · rw [if_pos e] at hc; cases hc
    · rw [if_neg e] at hc; exact ⟨e, hc⟩
  have ino : ∀ c, ((dropS (unl S b) p).nd c).ino = (S.nd c).ino := fun c => (unl_same S b c).1
  refine ⟨fun q => ?_, fun q c hc => ?_, fun q r c d hc hd e => ?_, h.next, fun q c hc => ?_⟩
  · show look1 (cutName T.L p) q = _
    rw [look1_cut, at']
    by_cases e : q = p
    · rw [if_pos e, if_pos e]; rfl
    · rw [if_neg e, if_neg e]
      have := h.at_ q
      unfold PT.at_ at this
      rw [this]
      simp only [ino]
  · obtain ⟨-, hc⟩ := old hc
    rw [ino]
    obtain ⟨-, u2, u3, u4, u5⟩ := unl_same S b c
    show T.th _ = ⟨((unl S b).nd c).kind, ((unl S b).nd c).mt, ((unl S b).nd c).target, ((unl S b).nd c).data⟩
    rw [u2, u3, u4, u5]; exact h.th _ _ hc
  · rw [ino, ino] at e; exact h.inj _ _ _ _ (old hc).2 (old hd).2 e
  · obtain ⟨hq, hc2⟩ := old hc
    clear hc
    have hc := hc2
    clear hc2
    rw [ino]
    have hk := (unl_same S b c).2.1
    show ((unl S b).nd c).links = if ((unl S b).nd c).kind = 1 then (cntL (cutName T.L p) (S.nd c).ino : Int) else 1
    rw [hk]
    have hcut := cnt_cut (S.nd c).ino hw.nodup (h.mem hb)
    have hl := h.links _ _ hc
    by_cases e : c = b
    · subst e
      rw [unl_self]
      rw [if_pos rfl] at hcut
      by_cases hk1 : (S.nd c).kind = 1
      · rw [if_pos hk1] at hl ⊢
        show (S.nd c).links - 1 = _
        rw [hl]; omega
      · exact absurd (hw.one _ (h.mem hc) _ (h.mem hb) rfl (by rw [h.kind hc]; exact hk1)) hq
    · rw [unl_ne S e, hl]
      rw [if_neg (fun e2 => e (h.inj _ _ _ _ hc hb e2))] at hcut
      rw [← hcut, Nat.add_zero]
/-- What stands at, and below, a path stands elsewhere. -/
def moveS (S : St) (old p : List Bytes) : St := ⟨fun q => if isPre p q then S.at_ (old ++ q.drop p.length) else if isPre old q then Option.none else S.at_ q, S.nd, S.dv, S.kid, S.next⟩
theorem isPre_self (p : List Bytes) : isPre p p = true := isPre_iff.2 ⟨[], by simp⟩
theorem isPre_app (p r : List Bytes) : isPre p (p ++ r) = true := isPre_iff.2 ⟨r, rfl⟩
theorem moveS_new (S : St) (old p r : List Bytes) : (moveS S old p).at_ (p ++ r) = S.at_ (old ++ r) := by
  show (if isPre p (p ++ r) then _ else _) = _
  rw [if_pos (isPre_app p r)]; simp
theorem moveS_old (S : St) {old p r : List Bytes} (h : isPre p (old ++ r) = false) : (moveS S old p).at_ (old ++ r) = Option.none := by
  show (if isPre p (old ++ r) then _ else if isPre old (old ++ r) then _ else _) = _
  rw [if_neg (by rw [h]; simp), if_pos (isPre_app old r)]
theorem moveS_else (S : St) {old p q : List Bytes} (h : isPre p q = false) (h' : isPre old q = false) : (moveS S old p).at_ q = S.at_ q := by
  show (if isPre p q then _ else if isPre old q then _ else _) = _
  rw [if_neg (by rw [h]; simp), if_neg (by rw [h']; simp)]
theorem Mt.moved {S : St} {T : PT} {n : Nat} (h : Mt S T) (hw : Wf T n) {old p : List Bytes} (hno : S.at_ p = Option.none) : Mt (moveS S old p) ⟨T.L.map fun x => (moveL old p x.1, x.2), T.th, T.next⟩ := by
  have hnoT : T.at_ p = Option.none := h.at_none.2 hno
  have nob : ∀ r i, (p ++ r, i) ∉ T.L := fun r i hi => by
    by_cases hr : r = []
    · subst hr; rw [List.append_nil] at hi; exact look1_none.1 hnoT i hi
    · obtain ⟨d, h1, -⟩ := hw.above r hi hr; exact look1_none.1 hnoT d h1
  have old' : ∀ {q c}, (moveS S old p).at_ q = Option.some c → ∃ z, S.at_ z = Option.some c := fun {q c} hc => by
    cases h1 : isPre p q with
    | true =>
      obtain ⟨r, rfl⟩ := isPre_iff.1 h1
      rw [moveS_new] at hc; exact ⟨_, hc⟩
    | false =>
      cases h2 : isPre old q with
      | true => obtain ⟨r, rfl⟩ := isPre_iff.1 h2; rw [moveS_old S h1] at hc; cases hc
      | false => rw [moveS_else S h1 h2] at hc; exact ⟨q, hc⟩
  refine ⟨fun q => ?_, fun q c hc => ?_, fun q r c d hc hd e => ?_, h.next, fun q c hc => ?_⟩
  · show look1 (T.L.map _) q = _
    cases h1 : isPre p q with
    | true =>
      obtain ⟨r, rfl⟩ := isPre_iff.1 h1
      rw [moveS_new, look1_map (y := old ++ r) ?_ (moveL_pre old p r)]
      · exact h.at_ _
      · intro x hx e
        cases h2 : isPre old x.1 with
        | true => obtain ⟨s, hs⟩ := isPre_iff.1 h2; rw [hs, moveL_pre] at e; rw [hs, List.append_cancel_left e]
        | false => rw [moveL_not h2] at e; exact absurd (show (p ++ r, x.2) ∈ T.L by rw [← e]; exact hx) (nob r _)
    | false =>
      cases h2 : isPre old q with
      | true =>
        obtain ⟨r, rfl⟩ := isPre_iff.1 h2
        rw [moveS_old S h1, look1_map_none]
        · rfl
        · intro x hx e
          cases h3 : isPre old x.1 with
          | true => obtain ⟨s, hs⟩ := isPre_iff.1 h3; rw [hs, moveL_pre] at e; rw [← e, isPre_app] at h1; cases h1
          | false => rw [moveL_not h3] at e; rw [e, isPre_app] at h3; cases h3
      | false =>
        rw [moveS_else S h1 h2, look1_map (y := q) ?_ (moveL_not h2)]
        · exact h.at_ _
        · intro x hx e
          cases h3 : isPre old x.1 with
          | true => obtain ⟨s, hs⟩ := isPre_iff.1 h3; rw [hs, moveL_pre] at e; rw [← e, isPre_app] at h1; cases h1
          | false => rw [moveL_not h3] at e; exact e
  · obtain ⟨z, hz⟩ := old' hc
    exact h.th _ _ hz
  · obtain ⟨y, hy⟩ := old' hc
    obtain ⟨z, hz⟩ := old' hd
    exact h.inj _ _ _ _ hy hz e
  · obtain ⟨z, hz⟩ := old' hc
    show (S.nd c).links = if (S.nd c).kind = 1 then (cntL (T.L.map _) (S.nd c).ino : Int) else 1
    rw [cntL_map]; exact h.links _ _ hz
/-- What stood in the place of a renamed file. -/
def Gave (S : St) (p : List Bytes) (b : Nat) (S1 : St) : Prop := (S.at_ p = Option.none ∧ S1 = S) ∨ ∃ c, S.at_ p = Option.some c ∧ (S.nd c).kind ≠ 2 ∧ c ≠ b ∧ S1 = unl S c
theorem Mt.renamed {S S1 : St} {T : PT} {n : Nat} (h : Mt S T) (hw : Wf T n) {old p : List Bytes} {b : Nat} (hb : S.at_ old = Option.some b) (hk : (S.nd b).kind ≠ 2) (hg : Gave S p b S1) : Mt (moveS S1 old p) ⟨(cutName T.L p).map fun x => (if x.1 = old then p else x.1, x.2), T.th, T.next⟩ := by
  have hS1 : S1.at_ = S.at_ := by rcases hg with ⟨-, rfl⟩ | ⟨c, -, -, -, rfl⟩ <;> rfl
  have hnx : S1.next = S.next := by rcases hg with ⟨-, rfl⟩ | ⟨c, -, -, -, rfl⟩ <;> rfl
  have same : ∀ c, (S1.nd c).ino = (S.nd c).ino ∧ (S1.nd c).kind = (S.nd c).kind ∧ (S1.nd c).mt = (S.nd c).mt ∧ (S1.nd c).target = (S.nd c).target ∧ (S1.nd c).data = (S.nd c).data := by
    intro c
    rcases hg with ⟨-, rfl⟩ | ⟨d, -, -, -, rfl⟩
    · exact ⟨rfl, rfl, rfl, rfl, rfl⟩
    · exact unl_same S d c
  have hpo : p ≠ old := by
    intro e; subst e
    rcases hg with ⟨e, -⟩ | ⟨c, e, -, hc, -⟩
    · rw [e] at hb; cases hb
    · rw [e] at hb; injection hb with hb; exact hc hb
  have nop : ∀ r i, r ≠ [] → (p ++ r, i) ∉ T.L := fun r i hr hi => by
    obtain ⟨d, h1, h2⟩ := hw.above r hi hr
    have := hw.at_iff.2 h1
    obtain ⟨c, h3, h4⟩ := h.back this
    rw [← h4, h.kind h3] at h2
    rcases hg with ⟨e, -⟩ | ⟨c', e, hk', -, -⟩
    · rw [e] at h3; cases h3
    · rw [e] at h3; injection h3 with h3; rw [h3] at hk'; exact hk' h2
  have noo : ∀ r i, r ≠ [] → (old ++ r, i) ∉ T.L := fun r i hr hi => by
    obtain ⟨d, h1, h2⟩ := hw.above r hi hr
    have := hw.at_iff.2 h1
    obtain ⟨c, h3, h4⟩ := h.back this
    rw [← h4, h.kind h3] at h2
    rw [hb] at h3; injection h3 with h3; rw [h3] at hk; exact hk h2
  have old' : ∀ {q c}, (moveS S1 old p).at_ q = Option.some c → ∃ z, S.at_ z = Option.some c ∧ z ≠ p := fun {q c} hc => by
    cases h1 : isPre p q with
    | true =>
      obtain ⟨r, rfl⟩ := isPre_iff.1 h1
      rw [moveS_new, hS1] at hc
      refine ⟨_, hc, fun e => ?_⟩
      by_cases hr : r = []
      · subst hr; rw [List.append_nil] at e; exact hpo e.symm
      · exact noo r _ hr (h.mem hc)
    | false =>
      cases h2 : isPre old q with
      | true => obtain ⟨r, rfl⟩ := isPre_iff.1 h2; rw [moveS_old S1 h1] at hc; cases hc
      | false =>
        rw [moveS_else S1 h1 h2, hS1] at hc
        exact ⟨q, hc, fun e => by rw [e, isPre_self] at h1; cases h1⟩
  refine ⟨fun q => ?_, fun q c hc => ?_, fun q r c d hc hd e => ?_, by show S1.next = T.next; rw [hnx, h.next], fun q c hc => ?_⟩
  · have ei : (fun b => ((moveS S1 old p).nd b).ino) = fun b => (S.nd b).ino := by funext c; exact (same c).1
    rw [ei]
    show look1 ((cutName T.L p).map _) q = _
    have hat : ∀ y, look1 T.L y = (S.at_ y).map fun b => (S.nd b).ino := h.at_
    cases h1 : isPre p q with
    | true =>
      obtain ⟨r, rfl⟩ := isPre_iff.1 h1
      rw [moveS_new, hS1]
      by_cases hr : r = []
      · subst hr
        rw [List.append_nil, List.append_nil, look1_map (f := fun y => if y = old then p else y) (y := old) (fun x hx e => ?_) (if_pos rfl), look1_cut, if_neg (fun e => hpo e.symm), hat]
        have e : (if x.1 = old then p else x.1) = p := e
        by_cases e2 : x.1 = old
        · exact e2
        · rw [if_neg e2] at e; exact absurd e (mem_cut.1 hx).2
      · rw [look1_map_none (f := fun y => if y = old then p else y) (fun x hx e => ?_)]
        · have : S.at_ (old ++ r) = Option.none := by
            cases hh : S.at_ (old ++ r) with
            | none => rfl
            | some d => exact absurd (h.mem hh) (noo r _ hr)
          rw [this]; rfl
        · have e : (if x.1 = old then p else x.1) = p ++ r := e
          by_cases e2 : x.1 = old
          · rw [if_pos e2] at e; exact hr (by simpa using e)
          · rw [if_neg e2] at e; exact nop r x.2 hr (by rw [← e]; exact (mem_cut.1 hx).1)
    | false =>
      have hqp : q ≠ p := fun e => by rw [e, isPre_self] at h1; cases h1
      cases h2 : isPre old q with
      | true =>
        obtain ⟨r, rfl⟩ := isPre_iff.1 h2
        rw [moveS_old S1 h1, look1_map_none (f := fun y => if y = old then p else y) (fun x hx e => ?_)]
        · rfl
        · have e : (if x.1 = old then p else x.1) = old ++ r := e
          by_cases e2 : x.1 = old
          · rw [if_pos e2] at e; exact hqp e.symm
          · rw [if_neg e2] at e
            by_cases hr : r = []
            · subst hr; rw [List.append_nil] at e; exact e2 e
            · exact noo r x.2 hr (by rw [← e]; exact (mem_cut.1 hx).1)
      | false =>
        have hqo : q ≠ old := fun e => by rw [e, isPre_self] at h2; cases h2
        rw [moveS_else S1 h1 h2, hS1, look1_map (f := fun y => if y = old then p else y) (y := q) (fun x hx e => ?_) (if_neg hqo), look1_cut, if_neg hqp, hat]
        have e : (if x.1 = old then p else x.1) = q := e
        by_cases e2 : x.1 = old
        · rw [if_pos e2] at e; exact absurd e.symm hqp
        · rw [if_neg e2] at e; exact e
  · obtain ⟨z, hz, -⟩ := old' hc
    obtain ⟨u1, u2, u3, u4, u5⟩ := same c
    show T.th (S1.nd c).ino = ⟨(S1.nd c).kind, (S1.nd c).mt, (S1.nd c).target, (S1.nd c).data⟩
    rw [u1, u2, u3, u4, u5]; exact h.th _ _ hz
  · obtain ⟨y, hy, -⟩ := old' hc
    obtain ⟨z, hz, -⟩ := old' hd
    have e : (S1.nd c).ino = (S1.nd d).ino := e
    rw [(same c).1, (same d).1] at e
    exact h.inj _ _ _ _ hy hz e
  · obtain ⟨z, hz, hzp⟩ := old' hc
    show (S1.nd c).links = if (S1.nd c).kind = 1 then (cntL ((cutName T.L p).map _) (S1.nd c).ino : Int) else 1
    rw [(same c).1, (same c).2.1, cntL_map fun y => if y = old then p else y]
    have hl := h.links _ _ hz
    rcases hg with ⟨e, rfl⟩ | ⟨d, hd, hkd, hdb, rfl⟩
    · rw [cut_none (look1_none.1 (h.at_none.2 e))]; exact hl
    · have hcut := cnt_cut (S.nd c).ino hw.nodup (h.mem hd)
      by_cases e : c = d
      · subst e
        rw [unl_self]
        rw [if_pos rfl] at hcut
        by_cases hk1 : (S.nd c).kind = 1
        · rw [if_pos hk1] at hl ⊢
          show (S.nd c).links - 1 = _
          rw [hl]; omega
        · exact absurd (hw.one _ (h.mem hz) _ (h.mem hd) rfl (by rw [h.kind hz]; exact hk1)) hzp
      · rw [unl_ne S e, hl]
        rw [if_neg (fun e2 => e (h.inj _ _ _ _ hz hd e2))] at hcut
        rw [← hcut, Nat.add_zero]
end Go.Proofs.YtkpefimnggojdaaGreat.VX
