import Derived.Test.YtmakjfeepmiggaaGreatZ24
namespace Go.Proofs.YtmakjfeepmiggaaGreat
open Go.RowKit Go.Maps TagPure
set_option linter.unusedVariables false
theorem rhpon {W : World} {lo b : Nat} {K tag : Int} {way : List (Int × Int × Int)} {qs : List (Nat × Dg)} (h : RHm W lo b (7 - (qs.length : Int)) K way tag qs) (hq : qs ≠ []) (hK : 0 ≤ K ∧ K < 1000000) :
    Calls Tryz.prog 174 #[.pointer (some ⟨b, 0, none⟩)] W fun e w' => e = .returned (.tuple #[]) ∧ OnPost lo b K way tag (qs.dropWhile (fun q => q.2.over)) W w' := by
  have h4 := h.four
  match qs, hq, h, h4 with
  | [(b3, d3)], _, h, _ => exact rhpon1 _ _ h hK
  | [(b2, d2), (b3, d3)], _, h, _ => exact rhpon2 _ _ _ _ h hK
  | [(b1, d1), (b2, d2), (b3, d3)], _, h, _ => exact rhpon3 _ _ _ _ _ _ h hK
  | [(b0, d0), (b1, d1), (b2, d2), (b3, d3)], _, h, _ => exact rhpon4 _ _ _ _ _ _ _ _ h hK
  | [], hq, _, _ => exact absurd rfl hq
  | _ :: _ :: _ :: _ :: _ :: _, _, _, h4 => simp only [List.length_cons] at h4; omega
def HP.rln (x : HP) : Int := if x.left = 0 then 0 else if x.l = [] then (if x.load = true then 2 else 1) else 7 - (x.l.length : Int)
structure RHopsAt (w : World) (lo b : Nat) (x : HP) (qs : List (Nat × Dg)) : Prop where
  m : RHm w lo b x.rln ((x.left : Int) - 1) x.way x.tag qs
  eq : x.l = qs.map Prod.snd
  lt : x.left < x.way.length ∨ x.left = 0
  off : x.left = 0 → x.l = []
  hd : ∀ d r, x.l = d :: r → d.over = false
def HP.nextR (s : CS) (xr : RS) (x : HP) : RS := match x.l with
  | d :: _ => d.stepR s xr
  | [] => match x.way[x.left - 1]? with
    | some p => if x.load = false then xr.acc 1 (tagsA p.1 p.2.1) (s.val (tagsA p.1 p.2.1)) else xr.acc 1 (itemA p.1 p.2.1 p.2.2) (s.val (itemA p.1 p.2.1 p.2.2))
    | none => xr
structure FR (S : List Nat) (w w' : World) : Prop where
  size : w.heap.size ≤ w'.heap.size
  cells : ∀ (k : Nat) (cs : Array Value) (T : TypeId) (fr : Nat × Nat), w.heap[k]? = some (.cells cs T fr) → rTy T = false → k ∉ S → w'.heap[k]? = some (.cells cs T fr)
  map : ∀ (k : Nat) (es : Array MapEntry) (cl : Nat), w.heap[k]? = some (.map es cl) → w'.heap[k]? = some (.map es cl)
theorem FR.refl (S : List Nat) (w : World) : FR S w w := ⟨Nat.le_refl _, fun _ _ _ _ h _ _ => h, fun _ _ _ h => h⟩
theorem FR.trans {S : List Nat} {w w' w'' : World} (h : FR S w w') (k : FR S w' w'') : FR S w w'' := ⟨Nat.le_trans h.size k.size, fun i cs T fr h1 h2 h3 => k.cells i cs T fr (h.cells i cs T fr h1 h2 h3) h2 h3, fun i es cl h1 => k.map i es cl (h.map i es cl h1)⟩
theorem fR_fr {S : List Nat} {w w' : World} (h : Fr rTy false w w') : FR S w w' := ⟨h.size, fun k cs T fr h1 h2 _ => h.cells k cs T fr h1 h2, fun k es cl h1 => h.map rfl k es cl h1⟩
theorem fR_below {S : List Nat} {w w' : World} (h : Below w.heap.size w w') : FR S w w' := fR_fr (below_fr h rTy false)
theorem fR_fx {S : List Nat} {K : TypeId → Bool} {w w' : World} {b : Nat} {cs : Array Value} {T : TypeId} {fr : Nat × Nat} (h : Fx K false b w w') (hK : ∀ T, rTy T = false → K T = false) (hb : b ∈ S) (hc : w.heap[b]? = some (.cells cs T fr)) : FR S w w' :=
  ⟨h.size, fun k cs T fr h1 h2 h3 => h.cells k cs T fr h1 (hK T h2) (fun e => h3 (e ▸ hb)), fun k es cl h1 => h.map rfl k es cl h1 (fun e => by subst e; rw [hc] at h1; cases h1)⟩
def RHPost (w0 w : World) (R : WB) (V : WV) (xr : RS) (b : Nat) (y : HP) (qs : List (Nat × Dg)) (w' : World) : Prop :=
  ∃ qs', RD w0 w' R V xr ∧ RHopsAt w' w0.heap.size b y qs' ∧ FR (b :: qs.map Prod.fst) w w' ∧ ∀ q ∈ qs', q.1 ∈ qs.map Prod.fst ∨ w.heap.size ≤ q.1
theorem dg_kind (s : CS) (d : Dg) : (d.step s).2.kind = d.kind := by
  cases d with
  | mark xs => cases xs <;> rfl
  | out σ =>
    simp only [Dg.step]
    by_cases e0 : σ.ln = 0
    · rw [if_pos e0]; rfl
    · rw [if_neg e0]
      by_cases e1 : σ.ln = 1
      · rw [if_pos e1]; rfl
      · rw [if_neg e1]; rfl
  | put σ g r =>
    simp only [Dg.step]
    by_cases e0 : σ.ln = 0
    · rw [if_pos e0]; rfl
    · rw [if_neg e0]
      by_cases e1 : σ.ln = 1
      · rw [if_pos e1]; rfl
      · rw [if_neg e1]; rfl
section
variable {w0 w w' : World} {R : WB} {V : WV} {xr : RS} {b : Nat} {ln K tag : Int} {way : List (Int × Int × Int)} {s : CS}
theorem RHm.step {lo q : Nat} {d d2 : Dg} {r : List (Nat × Dg)} (h : RHm w lo b ln K way tag ((q, d) :: r)) (hd : RDgAt w' lo q d2) (hk : d2.ok) (he : d2.kind = d.kind) (hf : Fx rTy false q w w') : RHm w' lo b ln K way tag ((q, d2) :: r) := by
  obtain ⟨vw, p0, p1, p2, p3, g1, g2, g3⟩ := h.ex
  have hne := h.ne (q, d) List.mem_cons_self
  simp only at hne
  have hnd := h.nd
  rw [List.map_cons, List.nodup_cons] at hnd
  obtain ⟨csq, hq⟩ := (h.dos _ List.mem_cons_self).1.blk
  have hqt : ∀ {k : Nat} {cs : Array Value} {T : TypeId} {fr : Nat × Nat}, w.heap[k]? = some (.cells cs T fr) → T ≠ 319 → T ≠ 321 → k ≠ q := fun hk h1 h2 e => by
    rw [e, hq] at hk
    simp only [Option.some.injEq, Obj.cells.injEq] at hk
    rcases d.rty_or with c | c
    · exact h1 (hk.2.1.symm.trans c)
    · exact h2 (hk.2.1.symm.trans c)
  refine ⟨h.low, h.few, h.four, ⟨vw, p0, p1, p2, p3, hf.cells _ _ _ _ g1 rfl (fun e => hne e.symm), ?_, g3⟩, ?_, ?_, h.nd⟩
  · obtain ⟨c1, c2 | ⟨g, cap, cur, hv, hb, hg, r2⟩⟩ := g2
    · exact ⟨c1, .inl c2⟩
    · exact ⟨c1, .inr ⟨g, cap, cur, hv, hb, hf.cells _ _ _ _ hg rfl (hqt hg (by decide) (by decide)), r2⟩⟩
  · have := h.kinds
    simp only [List.map_cons, List.length_cons] at this ⊢
    rw [he]; exact this
  · intro x hx
    rcases List.mem_cons.1 hx with rfl | hx
    · exact ⟨hd, hk⟩
    · obtain ⟨h1, h2⟩ := h.dos x (List.mem_cons_of_mem _ hx)
      refine ⟨h1.keep ?_ fun k cs fr hk => hf.cells _ _ _ _ hk rfl (hqt hk (by decide) (by decide)), h2⟩
      obtain ⟨cs, hb⟩ := h1.blk
      rw [hb]
      exact hf.cells _ _ _ _ hb (by rcases x.2.rty_or with c | c <;> rw [c] <;> rfl) (fun e => hnd.1 (List.mem_map.2 ⟨x, hx, e⟩))
theorem rhp_on {lo : Nat} {x : HP} {qs : List (Nat × Dg)} {W : World} (hl0 : x.left ≠ 0) (hlt : x.left < x.way.length ∨ x.left = 0) (he : x.l = qs.map Prod.snd) (hp : OnPost lo b ((x.left : Int) - 1) x.way x.tag (qs.dropWhile (fun q => q.2.over)) W w') : RHopsAt w' lo b x.on (qs.dropWhile (fun q => q.2.over)) := by
  obtain ⟨h1, -⟩ := hp
  have hm : x.l.dropWhile Dg.over = (qs.dropWhile (fun q => q.2.over)).map Prod.snd := by
    rw [he]
    generalize qs = l
    induction l with
    | nil => rfl
    | cons q l ih =>
      simp only [List.map_cons, List.dropWhile_cons]
      cases q.2.over
      · rfl
      · exact ih
  generalize hD : qs.dropWhile (fun q => q.2.over) = D at *
  have hover : ∀ q r, D = q :: r → q.2.over = false := fun q r e => by
    have := List.head?_dropWhile_not (fun q : Nat × Dg => q.2.over) qs
    rw [hD, e] at this
    simpa using this
  unfold HP.on
  rw [hm]
  cases D with
  | nil =>
    simp only [List.map_nil]
    unfold onK at h1
    rw [if_pos rfl] at h1
    refine ⟨?_, rfl, ?_, fun _ => rfl, fun d r e => by cases e⟩
    · have e1 : (if (x.left : Int) - 1 = 0 then (0 : Int) else 1) = HP.rln { x with l := [], left := x.left - 1, load := false } := by
        unfold HP.rln
        simp only
        by_cases h : x.left - 1 = 0
        · rw [if_pos h, if_pos (by omega)]
        · rw [if_neg h, if_neg (by omega)]; rfl
      have e2 : (x.left : Int) - 1 - 1 = ((x.left - 1 : Nat) : Int) - 1 := by omega
      simp only at h1
      rw [e1, e2] at h1
      exact h1
    · show x.left - 1 < x.way.length ∨ x.left - 1 = 0
      omega
  | cons q r =>
    simp only [List.map_cons]
    unfold onK at h1
    rw [if_neg (List.cons_ne_nil _ _)] at h1
    refine ⟨?_, rfl, hlt, fun c => absurd c hl0, fun d r2 e => ?_⟩
    · have e1 : (7 - (((q :: r).length : Nat) : Int)) = HP.rln { x with l := q.2 :: r.map Prod.snd } := by
        unfold HP.rln
        simp only
        rw [if_neg hl0, if_neg (List.cons_ne_nil _ _)]
        simp only [List.length_cons, List.length_map]
      simp only at h1
      rw [e1] at h1
      exact h1
    · simp only [List.cons.injEq] at e
      rw [← e.1]
      exact hover q r rfl
end
end Go.Proofs.YtmakjfeepmiggaaGreat