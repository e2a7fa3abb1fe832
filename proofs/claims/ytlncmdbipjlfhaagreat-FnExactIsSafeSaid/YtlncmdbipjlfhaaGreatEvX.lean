/- Failing inputs, both. Sizes. Copies. Comparisons. The law of IsSafe. Typed cells as the laws' data. -/
import Derived.Test.YtlncmdbipjlfhaaGreatProg
import Derived.Test.YtlncmdbipjlfhaaGreatEvW
import Derived.Test.YtlncmdbipjlfhaaGreatEvS
import Derived.Test.YtlncmdbipjlfhaaGreatEvN
import Derived.Test.YtlncmdbipjlfhaaGreatEvQ
set_option linter.unusedVariables false
set_option linter.unusedSimpArgs false
namespace Go.Ev
open Go Go.Proofs
set_option maxRecDepth 10000
set_option maxHeartbeats 4000000

theorem dfa_dn (d : DN) : d.dfa.dn = d := by
 show (⟨d.accept, (d.next.map _).map trip⟩ : DN) = d
 rw [List.map_map]
 have e : (trip ∘ fun t : Nat × Nat × Nat => [(t.1 : Int), (t.2.1 : Int), (t.2.2 : Int)]) = id := by
   funext t
   rfl
 rw [e, List.map_id]
def beforeD (l : Line) (d : DN) : Option DN :=
 if l.kind = 1 then some (quotS d (walk d l.text 0 0)) else if l.kind = 2 then some (quotS (rqD d l.text) 0) else if l.kind = 3 then some (quotS (preD d l.mor) 0)
 else match compV l.regex with
   | some c => fitD (prodD 6 d (cplD (quotS c 0)))
   | none => none
theorem line_kinds {l : Line} (h : lineOk l = true) : (l.kind = 1 ∧ isWord l.text = true) ∨ (l.kind = 2 ∧ isWord l.text = true) ∨ (l.kind = 3 ∧ isMor l.mor = true) ∨ (l.kind = 4 ∧ (compV l.regex).isSome = true) := by
 unfold lineOk at h
 by_cases k12 : l.kind = 1 ∨ l.kind = 2
 · rw [if_pos k12] at h
   simp only [Bool.and_eq_true] at h
   rcases k12 with k | k
   · exact .inl ⟨k, h.1.1.2⟩
   · exact .inr (.inl ⟨k, h.1.1.2⟩)
 · rw [if_neg k12] at h
   by_cases k3 : l.kind = 3
   · rw [if_pos k3] at h
     simp only [Bool.and_eq_true] at h
     exact .inr (.inr (.inl ⟨k3, h.1.2⟩))
   · rw [if_neg k3] at h
     by_cases k4 : l.kind = 4
     · rw [if_pos k4] at h
       simp only [Bool.and_eq_true] at h
       exact .inr (.inr (.inr ⟨k4, h.2⟩))
     · rw [if_neg k4] at h
       cases h
theorem compV_val {r : Rx} {c : DN} (h : compV r = some c) : Val c := by
 unfold compV at h
 split at h
 · rename_i hv
   unfold validR at hv
   simp only [Bool.and_eq_true] at hv
   exact compR_val r hv.2.2 h
 · cases h
theorem beforeD_val {l : Line} {d e : DN} (hd : Val d) (h : beforeD l d = some e) : Val e := by
 unfold beforeD at h
 split at h
 · cases h
   exact quotS_val hd (walk_lt hd.ok _ _ 0 0 (Nat.le_refl _) hd.pos)
 split at h
 · cases h
   exact quotS_val ⟨rqD_ok hd.ok _, by rw [rqD_len]; exact hd.pos, by rw [rqD_len]; exact hd.le⟩ (by rw [rqD_len]; exact hd.pos)
 split at h
 · cases h
   exact quotS_val (preD_val hd _) hd.pos
 · split at h
   · rename_i c hc
     have hcv := compV_val hc
     have hq := cplD_val (quotS_val hcv hcv.pos)
     exact fitD_val (prodD_ok hd hq).1 (prodD_ok hd hq).2.1 h
   · cases h
def failF (ls : List Line) : Nat → DN → Option DN
 | 0, d => some d
 | i + 1, d => match ls[i]? with
   | some l => (beforeD l d).bind (failF ls i)
   | none => none
def failR (ls : List Line) : V := if progOk ls = true then resO (failF ls ls.length noD) else resO none
theorem lqR_val {d : DN} (hd : Val d) {s : ByteArray} (hw : isWord s = true) : lqR d.dfa s = .tup [(quotS d (walk d s 0 0)).encD, .bool true] := by
 unfold lqR
 rw [if_pos ⟨hd.valid, hw⟩, dfa_dn]
theorem rqR_val {d : DN} (hd : Val d) {s : ByteArray} (hw : isWord s = true) : rqR d.dfa s = .tup [(quotS (rqD d s) 0).encD, .bool true] := by
 unfold rqR
 rw [if_pos ⟨hd.valid, hw⟩, dfa_dn]
theorem preR_val {d : DN} (hd : Val d) {m : Mor} (hm : isMor m = true) : preR d.dfa m = .tup [(quotS (preD d m) 0).encD, .bool true] := by
 unfold preR
 rw [if_pos ⟨hd.valid, hm⟩, dfa_dn]
theorem dfa_b {d : DN} (hd : Val d) : d.dfa.accept.length ≤ 1048576 ∧ d.dfa.next.length ≤ 1048576 ∧ ∀ r ∈ d.dfa.next, r.length ≤ 1048576 := by
 have hle := hd.le
 refine ⟨by show d.accept.length ≤ _; omega, by show (d.next.map _).length ≤ _; rw [List.length_map, hd.ok.1]; omega, fun r hr => ?_⟩
 obtain ⟨t, _, rfl⟩ := List.mem_map.1 hr
 show 3 ≤ 1048576
 decide
theorem r8 (ls : List Line) (hl : ls.length ≤ 1048576) (h : ∀ l ∈ ls, lineSz l) : run EE 8 [.agg [.slc false 8 (ls.map Line.enc)]] [] = some (failR ls, []) := by
 have iv := r20 ls hl h
 unfold failR
 rw [run_eq EE 8 _ _ Tryz.func8 (by decide +kernel) rfl (show 1 ≤ _ by decide)]
 dsimp only [Tryz.f8]
 cases hp : progOk ls
 · rw [hp] at iv
   rw [if_neg (by simp)]
   simp only [go_sem, iv, resO, Bool.not_false]
 rw [hp] at iv
 rw [if_pos rfl]
 have nw := r21
 simp only [DN.encT] at nw
 have hpo := hp
 unfold progOk at hpo
 rw [Bool.and_eq_true, List.all_eq_true] at hpo
 have hlen := of_decide_eq_true hpo.1
 replace hpo := hpo.2
 have w0 : IntKind.i64.wrap ((ls.length : Int) - 1) = (ls.length : Int) - 1 := wrap_in (by omega) (by omega)
 simp only [go_sem, iv, nw, w0, Bool.not_true]
 refine iter_inv (fun x : Nat × DN × Bool => x.1 ≤ ls.length ∧ Val x.2.1) (fun x => { t := upd (upd (upd (upd e0 5 (.int .i64 ((x.1 : Int) - 1))) 4 (.ptr 0 4 0)) 2 (.ptr 0 2 0)) 1 (.ptr 0 1 0), b := upd (upd (upd n0 4 (some (Ob.box [.slc x.2.2 1 (x.2.1.accept.map B), .slc x.2.2 1 (x.2.1.next.map NT)]))) 2 (some (Ob.box [.slc true 1 [], .slc true 1 []]))) 1 (some (Ob.box [.slc false 8 (ls.map Line.enc)])), o := [], r := #[ResultVar.cell 2 29, ResultVar.tmp 3], f := 8, n := 76 }) (fun x => some (resO (failF ls x.1 x.2.1), [])) (fun x => x.1) ?_ (ls.length, noD, true) ⟨Nat.le_refl _, noD_val⟩
 rintro ⟨i, d, f⟩ ⟨hi, hd⟩ ih
 dsimp only at hi hd ⊢
 cases i with
 | zero =>
   have e0 : ((0 : Nat) : Int) - 1 = -1 := rfl
   have k0 : ¬ ((-1 : Int) ≥ 0) := by decide
   rw [e0]
   simp only [go_sem, k0, failF, resO, DN.enc]
 | succ i =>
 have e1 : ((i + 1 : Nat) : Int) - 1 = (i : Int) := by omega
 rw [e1]
 have k0 : (i : Int) ≥ 0 := by omega
 have hh : i < ls.length := by omega
 have k1 : (i : Int) < ls.length := by omega
 have wi : IntKind.i64.wrap ((i : Int) - 1) = (i : Int) - 1 := wrap_in (by omega) (by omega)
 have hm := List.getElem_mem hh
 have hx := h _ hm
 have gl : ∀ v : V, (ls.map Line.enc).getD i v = ls[i].enc := fun v => getD_map hh v
 have hk := line_kinds (hpo _ hm)
 have hF : failF ls (i + 1) d = (beforeD ls[i] d).bind (failF ls i) := by
   show (match ls[i]? with | some l => (beforeD l d).bind (failF ls i) | none => none) = _
   rw [List.getElem?_eq_getElem hh]
 have hbv := fun e (he : beforeD (ls[i]'hh) d = some e) => beforeD_val hd he
 have hwl : ls[i].text.size ≤ 1048576 := hx.1
 rw [hF]
 generalize ls[i] = l at gl hx hk hbv hwl ⊢
 have ihn := fun (e : DN) (f' : Bool) he => ih (i, e, f') ⟨by dsimp only; omega, he⟩ (by dsimp only; omega)
 dsimp only at ihn
 obtain ⟨d1, d2, d3⟩ := dfa_b hd
 simp only [Line.enc] at gl
 unfold beforeD at hbv ⊢
 rcases hk with ⟨k, k2⟩ | ⟨k, k2⟩ | ⟨k, k2⟩ | ⟨k, k2⟩
 · have lq := r22 d.dfa l.text d1 d2 d3 hwl
   rw [lqR_val hd k2, DN.dfa_enc] at lq
   rw [if_pos k] at hbv ⊢
   have hv := hbv _ rfl
   generalize quotS d (walk d l.text 0 0) = q at lq hv ⊢
   simp only [DN.enc, DN.encD] at lq
   have ihq := ihn q true hv
   simp only [go_sem, k0, k1, gl, k, lq, wi, Option.bind_some]
   exact ihq
 · have lq := r23 d.dfa l.text d1 d2 d3 hwl
   rw [rqR_val hd k2, DN.dfa_enc] at lq
   have k1' : ¬ l.kind = 1 := by omega
   rw [if_neg k1', if_pos k] at hbv ⊢
   have hv := hbv _ rfl
   generalize quotS (rqD d l.text) 0 = q at lq hv ⊢
   simp only [DN.enc, DN.encD] at lq
   have ihq := ihn q true hv
   simp only [go_sem, k0, k1, gl, k, lq, wi, Option.bind_some, Int.reduceEq]
   exact ihq
 · have lq := r24 d.dfa l.mor d1 d2 d3 hx.2.1 hx.2.2.1 hx.2.2.2.1
   rw [preR_val hd k2, DN.dfa_enc] at lq
   have k1' : ¬ l.kind = 1 := by omega
   have k2' : ¬ l.kind = 2 := by omega
   rw [if_neg k1', if_neg k2', if_pos k] at hbv ⊢
   have hv := hbv _ rfl
   generalize quotS (preD d l.mor) 0 = q at lq hv ⊢
   simp only [DN.enc, DN.encD, Mor.enc] at lq
   have ihq := ihn q true hv
   simp only [go_sem, k0, k1, gl, k, lq, wi, Option.bind_some, Int.reduceEq]
   exact ihq
 · have k1' : ¬ l.kind = 1 := by omega
   have k2' : ¬ l.kind = 2 := by omega
   have k3' : ¬ l.kind = 3 := by omega
   rw [if_neg k1', if_neg k2', if_neg k3'] at hbv ⊢
   have cr := r25 l.regex hx.2.2.2.2
   rw [show (if validR l.regex = true then compR l.regex else none) = compV l.regex from rfl] at cr
   obtain ⟨c, hc⟩ := Option.isSome_iff_exists.1 k2
   rw [hc] at cr hbv ⊢
   dsimp only at hbv ⊢
   have hcv := compV_val hc
   have cp := r27 c hcv
   have hqv := cplD_val (quotS_val hcv hcv.pos)
   generalize cplD (quotS c 0) = q at cp hqv hbv ⊢
   have pr := r26 d q hd hqv 6 (.inl rfl)
   simp only [DN.enc, DN.encT, resO, Rx.enc_eq] at cr cp pr
   simp only [go_sem, k0, k1, gl, k, cr, wi, Int.reduceEq]
   rw [q_drs]
   rotate_left
   · kernel_rfl
   cases hf : fitD (prodD 6 d q) with
   | none =>
     rw [hf] at pr
     simp only [resO] at pr
     simp only [go_sem, cp, pr, resO, Option.bind_none]
   | some e =>
     rw [hf] at pr hbv
     have ihq := ihn e false (hbv _ rfl)
     simp only [resO, DN.enc] at pr
     simp only [go_sem, cp, pr, wi, Option.bind_some]
     exact ihq
theorem r18 (l : Line) (hx : lineSz l) (hl : lineOk l = true) (d : DN) (hd : Val d) : run EE 18 [l.enc, d.enc] [] = some (resO (beforeD l d), []) := by
 have hk := line_kinds hl
 obtain ⟨d1, d2, d3⟩ := dfa_b hd
 have hwl : l.text.size ≤ 1048576 := hx.1
 unfold beforeD
 simp only [Line.enc, DN.enc]
 rw [run_eq EE 18 _ _ Tryz.func18 (by decide +kernel) rfl (show 2 ≤ _ by decide)]
 dsimp only [Tryz.f18]
 rcases hk with ⟨k, k2⟩ | ⟨k, k2⟩ | ⟨k, k2⟩ | ⟨k, k2⟩
 · have lq := r40 d.dfa l.text d1 d2 d3 hwl
   rw [lqR_val hd k2, DN.dfa_enc] at lq
   rw [if_pos k]
   generalize quotS d (walk d l.text 0 0) = q at lq ⊢
   simp only [DN.enc, DN.encD] at lq
   simp only [go_sem, k, lq, resO, DN.enc]
 · have lq := r41 d.dfa l.text d1 d2 d3 hwl
   rw [rqR_val hd k2, DN.dfa_enc] at lq
   have k1' : ¬ l.kind = 1 := by omega
   rw [if_neg k1', if_pos k]
   generalize quotS (rqD d l.text) 0 = q at lq ⊢
   simp only [DN.enc, DN.encD] at lq
   simp only [go_sem, k, lq, Int.reduceEq, resO, DN.enc]
 · have lq := r42 d.dfa l.mor d1 d2 d3 hx.2.1 hx.2.2.1 hx.2.2.2.1
   rw [preR_val hd k2, DN.dfa_enc] at lq
   have k1' : ¬ l.kind = 1 := by omega
   have k2' : ¬ l.kind = 2 := by omega
   rw [if_neg k1', if_neg k2', if_pos k]
   generalize quotS (preD d l.mor) 0 = q at lq ⊢
   simp only [DN.enc, DN.encD, Mor.enc] at lq
   simp only [go_sem, k, lq, Int.reduceEq, resO, DN.enc]
 · have k1' : ¬ l.kind = 1 := by omega
   have k2' : ¬ l.kind = 2 := by omega
   have k3' : ¬ l.kind = 3 := by omega
   rw [if_neg k1', if_neg k2', if_neg k3']
   have cr := r43 l.regex hx.2.2.2.2
   rw [show (if validR l.regex = true then compR l.regex else none) = compV l.regex from rfl] at cr
   obtain ⟨c, hc⟩ := Option.isSome_iff_exists.1 k2
   rw [hc] at cr ⊢
   dsimp only
   have hcv := compV_val hc
   have cp := r45 c hcv
   have hqv := cplD_val (quotS_val hcv hcv.pos)
   generalize cplD (quotS c 0) = q at cp hqv ⊢
   have pr := r44 d q hd hqv 6 (.inl rfl)
   simp only [DN.enc, DN.encT, resO, Rx.enc_eq] at cr cp pr
   simp only [go_sem, k, cr, Int.reduceEq]
   rw [q_drs]
   rotate_left
   · kernel_rfl
   cases hf : fitD (prodD 6 d q) with
   | none =>
     rw [hf] at pr
     simp only [resO] at pr
     simp only [go_sem, cp, pr, resO, DN.enc]
   | some e =>
     rw [hf] at pr
     simp only [resO, DN.enc] at pr
     simp only [go_sem, cp, pr, resO, DN.enc]
theorem r6 (ls : List Line) (hl : ls.length ≤ 1048576) (h : ∀ l ∈ ls, lineSz l) : run EE 6 [.agg [.slc false 8 (ls.map Line.enc)]] [] = some (failR ls, []) := by
 have iv := r17 ls hl h
 unfold failR
 rw [run_eq EE 6 _ _ Tryz.func6 (by decide +kernel) rfl (show 1 ≤ _ by decide)]
 dsimp only [Tryz.f6]
 cases hp : progOk ls
 · rw [hp] at iv
   rw [if_neg (by simp)]
   simp only [go_sem, iv, resO, Bool.not_false]
 rw [hp] at iv
 rw [if_pos rfl]
 have hpo := hp
 unfold progOk at hpo
 rw [Bool.and_eq_true, List.all_eq_true] at hpo
 have hlen := of_decide_eq_true hpo.1
 replace hpo := hpo.2
 have w0 : IntKind.i64.wrap ((ls.length : Int) - 1) = (ls.length : Int) - 1 := wrap_in (by omega) (by omega)
 simp only [go_sem, iv, w0, Bool.not_true]
 refine iter_inv (fun x : Nat × DN × Bool => x.1 ≤ ls.length ∧ Val x.2.1) (fun x => { t := upd (upd (upd (upd e0 5 (.int .i64 ((x.1 : Int) - 1))) 4 (.ptr 0 4 0)) 2 (.ptr 0 2 0)) 1 (.ptr 0 1 0), b := upd (upd (upd n0 4 (some (Ob.box [.slc x.2.2 1 (x.2.1.accept.map B), .slc x.2.2 1 (x.2.1.next.map NT)]))) 2 (some (Ob.box [.slc true 1 [], .slc true 1 []]))) 1 (some (Ob.box [.slc false 8 (ls.map Line.enc)])), o := [], r := #[ResultVar.cell 2 29, ResultVar.tmp 3], f := 6, n := 39 }) (fun x => some (resO (failF ls x.1 x.2.1), [])) (fun x => x.1) ?_ (ls.length, noD, true) ⟨Nat.le_refl _, noD_val⟩
 rintro ⟨i, d, f⟩ ⟨hi, hd⟩ ih
 dsimp only at hi hd ⊢
 cases i with
 | zero =>
   have e0 : ((0 : Nat) : Int) - 1 = -1 := rfl
   have k0 : ¬ ((-1 : Int) ≥ 0) := by decide
   rw [e0]
   simp only [go_sem, k0, failF, resO, DN.enc]
 | succ i =>
 have e1 : ((i + 1 : Nat) : Int) - 1 = (i : Int) := by omega
 rw [e1]
 have k0 : (i : Int) ≥ 0 := by omega
 have hh : i < ls.length := by omega
 have k1 : (i : Int) < ls.length := by omega
 have wi : IntKind.i64.wrap ((i : Int) - 1) = (i : Int) - 1 := wrap_in (by omega) (by omega)
 have hm := List.getElem_mem hh
 have gl : ∀ v : V, (ls.map Line.enc).getD i v = ls[i].enc := fun v => getD_map hh v
 have hF : failF ls (i + 1) d = (beforeD ls[i] d).bind (failF ls i) := by
   show (match ls[i]? with | some l => (beforeD l d).bind (failF ls i) | none => none) = _
   rw [List.getElem?_eq_getElem hh]
 have hbv := fun e (he : beforeD (ls[i]'hh) d = some e) => beforeD_val hd he
 have lb := r18 (ls[i]'hh) (h _ hm) (hpo _ hm) d hd
 rw [hF]
 generalize ls[i] = l at gl hbv lb ⊢
 have ihn := fun (e : DN) (f' : Bool) he => ih (i, e, f') ⟨by dsimp only; omega, he⟩ (by dsimp only; omega)
 dsimp only at ihn
 simp only [Line.enc, DN.enc] at gl lb
 simp only [go_sem, k0, k1]
 rw [q_drawn]
 rotate_left
 · kernel_rfl
 cases hb : beforeD l d with
 | none =>
   rw [hb] at lb
   simp only [resO] at lb
   simp only [go_sem, still, k0, k1, gl, lb, Option.bind_none, resO, eq_self]
 | some e =>
   rw [hb] at lb hbv
   have ihq := ihn e false (hbv _ rfl)
   simp only [resO, DN.enc] at lb
   simp only [go_sem, still, k0, k1, gl, lb, wi, Option.bind_some, eq_self]
   exact ihq
def safeR (ls : List Line) : V := if progOk ls = true then (match failF ls ls.length noD with
   | none => .tup [.bool false, .str ⟨#[]⟩, .bool false]
   | some d => match shortW d with
     | some w => .tup [.bool false, .str w, .bool true]
     | none => .tup [.bool true, .str ⟨#[]⟩, .bool true]) else .tup [.bool false, .str ⟨#[]⟩, .bool false]
theorem failF_val {ls : List Line} : ∀ (i : Nat) {d e : DN}, Val d → failF ls i d = some e → Val e := by
 intro i
 induction i with
 | zero => intro d e hd h; cases h; exact hd
 | succ i ih =>
   intro d e hd h
   unfold failF at h
   split at h
   · rename_i l _
     obtain ⟨d2, h1, h2⟩ := Option.bind_eq_some_iff.1 h
     exact ih (beforeD_val hd h1) h2
   · cases h
theorem r15 (ls : List Line) (hl : ls.length ≤ 1048576) (h : ∀ l ∈ ls, lineSz l) : run EE 15 [.agg [.slc false 8 (ls.map Line.enc)]] [] = some (safeR ls, []) := by
 have fi := r8 ls hl h
 unfold failR at fi
 unfold safeR
 rw [run_eq EE 15 _ _ Tryz.func15 (by decide +kernel) rfl (show 1 ≤ _ by decide)]
 dsimp only [Tryz.f15]
 cases hp : progOk ls
 · rw [hp, if_neg (by simp)] at fi
   rw [if_neg (by simp)]
   simp only [resO] at fi
   simp only [go_sem, fi, Bool.not_false]
 rw [hp, if_pos rfl] at fi
 rw [if_pos rfl]
 cases hf : failF ls ls.length noD with
 | none =>
   rw [hf] at fi
   simp only [resO] at fi
   simp only [go_sem, fi, Bool.not_false]
 | some d =>
   rw [hf] at fi
   have sw := r37 d (failF_val _ noD_val hf)
   simp only [resO, DN.enc] at fi sw
   dsimp only
   generalize shortW d = o at sw ⊢
   cases o <;> simp only [foundR] at sw <;> simp only [go_sem, fi, sw, Bool.not_true, Bool.not_false]
theorem r14 (ls : List Line) (hl : ls.length ≤ 1048576) (h : ∀ l ∈ ls, lineSz l) : run EE 14 [.agg [.slc false 8 (ls.map Line.enc)]] [] = some (safeR ls, []) := by
 have fi := r6 ls hl h
 unfold failR at fi
 unfold safeR
 rw [run_eq EE 14 _ _ Tryz.func14 (by decide +kernel) rfl (show 1 ≤ _ by decide)]
 dsimp only [Tryz.f14]
 cases hp : progOk ls
 · rw [hp, if_neg (by simp)] at fi
   rw [if_neg (by simp)]
   simp only [resO] at fi
   simp only [go_sem, fi, Bool.not_false]
 rw [hp, if_pos rfl] at fi
 rw [if_pos rfl]
 cases hf : failF ls ls.length noD with
 | none =>
   rw [hf] at fi
   simp only [resO] at fi
   simp only [go_sem, fi, Bool.not_false]
 | some d =>
   rw [hf] at fi
   have sw := r36 d (failF_val _ noD_val hf)
   simp only [resO, DN.enc] at fi sw
   dsimp only
   generalize shortW d = o at sw ⊢
   cases o <;> simp only [foundR] at sw <;> simp only [go_sem, fi, sw, Bool.not_true, Bool.not_false]
end Go.Ev
namespace Go.Ev
open Go Go.Proofs
set_option maxRecDepth 10000
theorem r105 (l : List Rx) (hl : l.length ≤ 9223372036854775807) (hc : ∀ x ∈ l, ∀ left : Int, 0 ≤ left → left ≤ 1048576 → run EE 73 [(Rx.enc x), .int .i64 left] [] = some (.int .i64 (szR (Rx.enc x) left), [])) (left : Int) (h0 : 0 ≤ left) (h1 : left ≤ 1048576) : run EE 105 [.slc false 3 (l.map Rx.enc), .int .i64 left] [] = some (.int .i64 (szR (.slc false 3 (l.map Rx.enc)) left), []) := by
 rw [run_eq EE 105 _ _ Tryz.func105 (by decide +kernel) rfl (show 2 ≤ _ by decide)]
 dsimp only [Tryz.f105]
 have w := wrap_in (n := left - (l.length : Int)) (by omega) (by omega)
 simp only [go_sem, w]
 have e : szR (.slc false 3 (l.map Rx.enc)) left = leftOf (l.length + szL (l.map Rx.enc)) left := by simp only [szR, szT, List.length_map]
 rw [e]
 refine condL_dec (fun c => ?_) (fun c => ?_)
 · simp only [go_sem]
   rw [leftOf_neg (by omega)]
 simp only [go_sem]
 refine (iter_inv (fun x : Nat × Int => x.1 ≤ l.length ∧ 0 ≤ x.2 ∧ x.2 ≤ 1048576) (fun x => { t := upd (upd (upd (e0) 5 (.int .i64 x.1)) 1 (.int .i64 x.2)) 0 (.slc false 3 (l.map Rx.enc)), b := n0, o := [], r := #[ResultVar.tmp 4], f := 105, n := 27 }) (fun x => some (.int .i64 (szRL ((l.drop x.1).map Rx.enc) x.2), [])) (fun x => l.length - x.1) ?_ (0, left - (l.length : Int)) ⟨Nat.zero_le _, by show 0 ≤ left - (l.length : Int); omega, by show left - (l.length : Int) ≤ 1048576; omega⟩).trans ?_
 · rintro ⟨i, left⟩ ⟨hi, a0, a1⟩ ih
   dsimp only at hi a0 a1 ⊢
   by_cases h : i < l.length
   · have k1 : (i : Int) < l.length := by omega
     have w := wrap_nat (n := i) (by omega)
     have hx := hc l[i] (List.getElem_mem h) left a0 a1
     rw [List.drop_eq_getElem_cons h, List.map_cons, szRL_cons]
     have hle : szR (Rx.enc l[i]) left ≤ left ∨ szR (Rx.enc l[i]) left = -1 := by unfold szR leftOf; split <;> omega
     generalize szR (Rx.enc l[i]) left = r at hx hle ⊢
     simp only [Rx.enc_eq, Vals.enc, Mor.enc, Sta.enc, Con.enc, Line.enc, Ans.enc, Prob.enc, Prog.enc, Ses.enc, Equ.enc, Mon.enc, Frm.enc, Mov.enc, Stp.enc, Dfa.enc, IL, I, B] at hx
     simp only [go_sem, k1, w, getD_map h, hx]
     refine condL_dec (fun c => ?_) (fun c => ?_)
     · simp only [go_sem]
       rw [if_pos c]
     · simp only [go_sem, w]
       rw [if_neg c]
       exact ih (i + 1, r) ⟨by show i + 1 ≤ l.length; omega, by show 0 ≤ r; omega, by show r ≤ 1048576; omega⟩ (by show l.length - (i + 1) < l.length - i; omega)
   · have k1 : ¬ (i : Int) < l.length := by omega
     simp only [go_sem, k1]
     rw [List.drop_eq_nil_of_le (by omega)]
     show _ = some (V.int .i64 (leftOf 0 left), [])
     rw [leftOf_pos (by omega)]
     simp
 · show some (V.int .i64 (leftOf (szL (l.map Rx.enc)) (left - (l.length : Int))), []) = _
   by_cases h : (szL (l.map Rx.enc) : Int) ≤ left - l.length
   · rw [leftOf_pos h, leftOf_pos (by omega)]
     refine congrArg some (congrArg (·, []) (congrArg (V.int .i64) ?_))
     omega
   · rw [leftOf_neg h, leftOf_neg (by omega)]

theorem r73 (x : Rx) (ho : okV x.enc) (left : Int) (h0 : 0 ≤ left) (h1 : left ≤ 1048576) : run EE 73 [x.enc, .int .i64 left] [] = some (.int .i64 (szR x.enc left), []) := by
 have ho' := ho
 simp only [Rx.enc_eq, Vals.enc, Mor.enc, Sta.enc, Con.enc, Line.enc, Ans.enc, Prob.enc, Prog.enc, Ses.enc, Equ.enc, Mon.enc, Frm.enc, Mov.enc, Stp.enc, Dfa.enc, IL, I, B, okV, okL, and_true, true_and, List.length_map] at ho'
 have hc : ∀ z ∈ x.args, ∀ left : Int, 0 ≤ left → left ≤ 1048576 → run EE 73 [z.enc, .int .i64 left] [] = some (.int .i64 (szR z.enc left), []) := fun z hz left a b => r73 z (okL_map ho'.2.2.2 hz) left a b
 rw [run_eq EE 73 _ _ Tryz.func73 (by decide +kernel) rfl (show 2 ≤ _ by decide)]
 dsimp only [Tryz.f73]
 have e : szR x.enc left = leftOf (szT x.enc) left := rfl
 rw [e]
 simp only [Rx.enc_eq, Vals.enc, Mor.enc, Sta.enc, Con.enc, Line.enc, Ans.enc, Prob.enc, Prog.enc, Ses.enc, Equ.enc, Mon.enc, Frm.enc, Mov.enc, Stp.enc, Dfa.enc, IL, I, B, szT, szL, List.length_map]
 have w1 := wrap_in (n := left - ((x.letter).size : Int)) (by omega) (by omega)
 simp only [go_sem, w1]
 refine condL_dec (fun c1 => ?_) (fun c1 => ?_)
 · simp only [go_sem]
   rw [leftOf_neg (by omega)]
 have w2 := r105 x.args (by simp only [Rx.enc_eq, Vals.enc, Mor.enc, Sta.enc, Con.enc, Line.enc, Ans.enc, Prob.enc, Prog.enc, Ses.enc, Equ.enc, Mon.enc, Frm.enc, Mov.enc, Stp.enc, Dfa.enc, IL, I, B, okV, okL, and_true, true_and, List.length_map] at ho; omega) hc (left - ((x.letter).size : Int)) (by omega) (by omega)
 unfold szR at w2
 generalize hn2 : szT (.slc false 3 (x.args.map Rx.enc)) = n2 at w2
 simp only [Rx.enc_eq, Vals.enc, Mor.enc, Sta.enc, Con.enc, Line.enc, Ans.enc, Prob.enc, Prog.enc, Ses.enc, Equ.enc, Mon.enc, Frm.enc, Mov.enc, Stp.enc, Dfa.enc, IL, I, B, szT, szL, List.length_map] at w2 hn2
 simp only [go_sem, w2]
 refine condL_dec (fun c2 => ?_) (fun c2 => ?_)
 · have := leftOf_lt (by omega) c2
   simp only [go_sem]
   rw [leftOf_neg (by omega)]
 obtain ⟨e2, b2⟩ := leftOf_ge c2
 simp only [go_sem, e2]
 rw [leftOf_pos (by omega)]
 refine congrArg some (congrArg (·, []) (congrArg (V.int .i64) ?_))
 omega
 termination_by SizeOf.sizeOf x
 decreasing_by exact Rx.lt _ hz

theorem r72 (x : Mor) (ho : okV x.enc) (left : Int) (h0 : 0 ≤ left) (h1 : left ≤ 1048576) : run EE 72 [x.enc, .int .i64 left] [] = some (.int .i64 (szR x.enc left), []) := by
 have ho' := ho
 simp only [Rx.enc_eq, Vals.enc, Mor.enc, Sta.enc, Con.enc, Line.enc, Ans.enc, Prob.enc, Prog.enc, Ses.enc, Equ.enc, Mon.enc, Frm.enc, Mov.enc, Stp.enc, Dfa.enc, IL, I, B, okV, okL, and_true, true_and, List.length_map] at ho'
 rw [run_eq EE 72 _ _ Tryz.func72 (by decide +kernel) rfl (show 2 ≤ _ by decide)]
 dsimp only [Tryz.f72]
 have e : szR x.enc left = leftOf (szT x.enc) left := rfl
 rw [e]
 simp only [Rx.enc_eq, Vals.enc, Mor.enc, Sta.enc, Con.enc, Line.enc, Ans.enc, Prob.enc, Prog.enc, Ses.enc, Equ.enc, Mon.enc, Frm.enc, Mov.enc, Stp.enc, Dfa.enc, IL, I, B, szT, szL, List.length_map]
 have w1 := wrap_in (n := left - ((x.a).size : Int)) (by omega) (by omega)
 simp only [go_sem, w1]
 refine condL_dec (fun c1 => ?_) (fun c1 => ?_)
 · simp only [go_sem]
   rw [leftOf_neg (by omega)]
 have w2 := wrap_in (n := left - ((x.a).size : Int) - ((x.b).size : Int)) (by omega) (by omega)
 simp only [go_sem, w2]
 refine condL_dec (fun c2 => ?_) (fun c2 => ?_)
 · simp only [go_sem]
   rw [leftOf_neg (by omega)]
 have w3 := wrap_in (n := left - ((x.a).size : Int) - ((x.b).size : Int) - ((x.c).size : Int)) (by omega) (by omega)
 simp only [go_sem, w3]
 refine condL_dec (fun c3 => ?_) (fun c3 => ?_)
 · simp only [go_sem]
   rw [leftOf_neg (by omega)]
 simp only [go_sem]
 rw [leftOf_pos (by omega)]
 refine congrArg some (congrArg (·, []) (congrArg (V.int .i64) ?_))
 omega

theorem r38 (x : Line) (ho : okV x.enc) (left : Int) (h0 : 0 ≤ left) (h1 : left ≤ 1048576) : run EE 38 [x.enc, .int .i64 left] [] = some (.int .i64 (szR x.enc left), []) := by
 have ho' := ho
 simp only [Rx.enc_eq, Vals.enc, Mor.enc, Sta.enc, Con.enc, Line.enc, Ans.enc, Prob.enc, Prog.enc, Ses.enc, Equ.enc, Mon.enc, Frm.enc, Mov.enc, Stp.enc, Dfa.enc, IL, I, B, okV, okL, and_true, true_and, List.length_map] at ho'
 rw [run_eq EE 38 _ _ Tryz.func38 (by decide +kernel) rfl (show 2 ≤ _ by decide)]
 dsimp only [Tryz.f38]
 have e : szR x.enc left = leftOf (szT x.enc) left := rfl
 rw [e]
 simp only [Rx.enc_eq, Vals.enc, Mor.enc, Sta.enc, Con.enc, Line.enc, Ans.enc, Prob.enc, Prog.enc, Ses.enc, Equ.enc, Mon.enc, Frm.enc, Mov.enc, Stp.enc, Dfa.enc, IL, I, B, szT, szL, List.length_map]
 have w1 := wrap_in (n := left - ((x.text).size : Int)) (by omega) (by omega)
 simp only [go_sem, w1]
 refine condL_dec (fun c1 => ?_) (fun c1 => ?_)
 · simp only [go_sem]
   rw [leftOf_neg (by omega)]
 have w2 := r72 x.mor (by simp only [Rx.enc_eq, Vals.enc, Mor.enc, Sta.enc, Con.enc, Line.enc, Ans.enc, Prob.enc, Prog.enc, Ses.enc, Equ.enc, Mon.enc, Frm.enc, Mov.enc, Stp.enc, Dfa.enc, IL, I, B, okV, okL, and_true, true_and, List.length_map] at ho ⊢; simp only [ho, and_self]) (left - ((x.text).size : Int)) (by omega) (by omega)
 unfold szR at w2
 generalize hn2 : szT (x.mor.enc) = n2 at w2
 simp only [Rx.enc_eq, Vals.enc, Mor.enc, Sta.enc, Con.enc, Line.enc, Ans.enc, Prob.enc, Prog.enc, Ses.enc, Equ.enc, Mon.enc, Frm.enc, Mov.enc, Stp.enc, Dfa.enc, IL, I, B, szT, szL, List.length_map] at w2 hn2
 simp only [go_sem, w2]
 refine condL_dec (fun c2 => ?_) (fun c2 => ?_)
 · have := leftOf_lt (by omega) c2
   simp only [go_sem]
   rw [leftOf_neg (by omega)]
 obtain ⟨e2, b2⟩ := leftOf_ge c2
 have w3 := r73 x.regex (by simp only [Rx.enc_eq, Vals.enc, Mor.enc, Sta.enc, Con.enc, Line.enc, Ans.enc, Prob.enc, Prog.enc, Ses.enc, Equ.enc, Mon.enc, Frm.enc, Mov.enc, Stp.enc, Dfa.enc, IL, I, B, okV, okL, and_true, true_and, List.length_map] at ho ⊢; simp only [ho, and_self]) (left - ((x.text).size : Int) - (n2 : Int)) (by omega) (by omega)
 unfold szR at w3
 generalize hn3 : szT (x.regex.enc) = n3 at w3
 simp only [Rx.enc_eq, Vals.enc, Mor.enc, Sta.enc, Con.enc, Line.enc, Ans.enc, Prob.enc, Prog.enc, Ses.enc, Equ.enc, Mon.enc, Frm.enc, Mov.enc, Stp.enc, Dfa.enc, IL, I, B, szT, szL, List.length_map] at w3 hn3
 simp only [go_sem, w3, e2]
 refine condL_dec (fun c3 => ?_) (fun c3 => ?_)
 · have := leftOf_lt (by omega) c3
   simp only [go_sem, e2]
   rw [leftOf_neg (by omega)]
 obtain ⟨e3, b3⟩ := leftOf_ge c3
 simp only [go_sem, e2, e3]
 rw [leftOf_pos (by omega)]
 refine congrArg some (congrArg (·, []) (congrArg (V.int .i64) ?_))
 omega

theorem r16 (l : List Line) (hl : l.length ≤ 9223372036854775807) (hc : ∀ x ∈ l, ∀ left : Int, 0 ≤ left → left ≤ 1048576 → run EE 38 [(Line.enc x), .int .i64 left] [] = some (.int .i64 (szR (Line.enc x) left), [])) (left : Int) (h0 : 0 ≤ left) (h1 : left ≤ 1048576) : run EE 16 [.slc false 8 (l.map Line.enc), .int .i64 left] [] = some (.int .i64 (szR (.slc false 8 (l.map Line.enc)) left), []) := by
 rw [run_eq EE 16 _ _ Tryz.func16 (by decide +kernel) rfl (show 2 ≤ _ by decide)]
 dsimp only [Tryz.f16]
 have w := wrap_in (n := left - (l.length : Int)) (by omega) (by omega)
 simp only [go_sem, w]
 have e : szR (.slc false 8 (l.map Line.enc)) left = leftOf (l.length + szL (l.map Line.enc)) left := by simp only [szR, szT, List.length_map]
 rw [e]
 refine condL_dec (fun c => ?_) (fun c => ?_)
 · simp only [go_sem]
   rw [leftOf_neg (by omega)]
 simp only [go_sem]
 refine (iter_inv (fun x : Nat × Int => x.1 ≤ l.length ∧ 0 ≤ x.2 ∧ x.2 ≤ 1048576) (fun x => { t := upd (upd (upd (e0) 5 (.int .i64 x.1)) 1 (.int .i64 x.2)) 0 (.slc false 8 (l.map Line.enc)), b := n0, o := [], r := #[ResultVar.tmp 4], f := 16, n := 27 }) (fun x => some (.int .i64 (szRL ((l.drop x.1).map Line.enc) x.2), [])) (fun x => l.length - x.1) ?_ (0, left - (l.length : Int)) ⟨Nat.zero_le _, by show 0 ≤ left - (l.length : Int); omega, by show left - (l.length : Int) ≤ 1048576; omega⟩).trans ?_
 · rintro ⟨i, left⟩ ⟨hi, a0, a1⟩ ih
   dsimp only at hi a0 a1 ⊢
   by_cases h : i < l.length
   · have k1 : (i : Int) < l.length := by omega
     have w := wrap_nat (n := i) (by omega)
     have hx := hc l[i] (List.getElem_mem h) left a0 a1
     rw [List.drop_eq_getElem_cons h, List.map_cons, szRL_cons]
     have hle : szR (Line.enc l[i]) left ≤ left ∨ szR (Line.enc l[i]) left = -1 := by unfold szR leftOf; split <;> omega
     generalize szR (Line.enc l[i]) left = r at hx hle ⊢
     simp only [Rx.enc_eq, Vals.enc, Mor.enc, Sta.enc, Con.enc, Line.enc, Ans.enc, Prob.enc, Prog.enc, Ses.enc, Equ.enc, Mon.enc, Frm.enc, Mov.enc, Stp.enc, Dfa.enc, IL, I, B] at hx
     simp only [go_sem, k1, w, getD_map h, hx]
     refine condL_dec (fun c => ?_) (fun c => ?_)
     · simp only [go_sem]
       rw [if_pos c]
     · simp only [go_sem, w]
       rw [if_neg c]
       exact ih (i + 1, r) ⟨by show i + 1 ≤ l.length; omega, by show 0 ≤ r; omega, by show r ≤ 1048576; omega⟩ (by show l.length - (i + 1) < l.length - i; omega)
   · have k1 : ¬ (i : Int) < l.length := by omega
     simp only [go_sem, k1]
     rw [List.drop_eq_nil_of_le (by omega)]
     show _ = some (V.int .i64 (leftOf 0 left), [])
     rw [leftOf_pos (by omega)]
     simp
 · show some (V.int .i64 (leftOf (szL (l.map Line.enc)) (left - (l.length : Int))), []) = _
   by_cases h : (szL (l.map Line.enc) : Int) ≤ left - l.length
   · rw [leftOf_pos h, leftOf_pos (by omega)]
     refine congrArg some (congrArg (·, []) (congrArg (V.int .i64) ?_))
     omega
   · rw [leftOf_neg h, leftOf_neg (by omega)]

theorem r5 (x : Prog) (ho : okV x.enc) (left : Int) (h0 : 0 ≤ left) (h1 : left ≤ 1048576) : run EE 5 [x.enc, .int .i64 left] [] = some (.int .i64 (szR x.enc left), []) := by
 have ho' := ho
 simp only [Rx.enc_eq, Vals.enc, Mor.enc, Sta.enc, Con.enc, Line.enc, Ans.enc, Prob.enc, Prog.enc, Ses.enc, Equ.enc, Mon.enc, Frm.enc, Mov.enc, Stp.enc, Dfa.enc, IL, I, B, okV, okL, and_true, true_and, List.length_map] at ho'
 rw [run_eq EE 5 _ _ Tryz.func5 (by decide +kernel) rfl (show 2 ≤ _ by decide)]
 dsimp only [Tryz.f5]
 have e : szR x.enc left = leftOf (szT x.enc) left := rfl
 rw [e]
 simp only [Rx.enc_eq, Vals.enc, Mor.enc, Sta.enc, Con.enc, Line.enc, Ans.enc, Prob.enc, Prog.enc, Ses.enc, Equ.enc, Mon.enc, Frm.enc, Mov.enc, Stp.enc, Dfa.enc, IL, I, B, szT, szL, List.length_map]
 have w1 := r16 x.lines (by simp only [Rx.enc_eq, Vals.enc, Mor.enc, Sta.enc, Con.enc, Line.enc, Ans.enc, Prob.enc, Prog.enc, Ses.enc, Equ.enc, Mon.enc, Frm.enc, Mov.enc, Stp.enc, Dfa.enc, IL, I, B, okV, okL, and_true, true_and, List.length_map] at ho; omega) (fun z hz left a b => r38 z (okL_map (by simp only [Rx.enc_eq, Vals.enc, Mor.enc, Sta.enc, Con.enc, Line.enc, Ans.enc, Prob.enc, Prog.enc, Ses.enc, Equ.enc, Mon.enc, Frm.enc, Mov.enc, Stp.enc, Dfa.enc, IL, I, B, okV, okL, and_true, true_and, List.length_map] at ho; simp only [ho]) hz) left a b) (left) (by omega) (by omega)
 unfold szR at w1
 generalize hn1 : szT (.slc false 8 (x.lines.map Line.enc)) = n1 at w1
 simp only [Rx.enc_eq, Vals.enc, Mor.enc, Sta.enc, Con.enc, Line.enc, Ans.enc, Prob.enc, Prog.enc, Ses.enc, Equ.enc, Mon.enc, Frm.enc, Mov.enc, Stp.enc, Dfa.enc, IL, I, B, szT, szL, List.length_map] at w1 hn1
 simp only [go_sem, w1]
 refine condL_dec (fun c1 => ?_) (fun c1 => ?_)
 · have := leftOf_lt (by omega) c1
   simp only [go_sem]
   rw [leftOf_neg (by omega)]
 obtain ⟨e1, b1⟩ := leftOf_ge c1
 simp only [go_sem, e1]
 rw [leftOf_pos (by omega)]
 refine congrArg some (congrArg (·, []) (congrArg (V.int .i64) ?_))
 omega
end Go.Ev
namespace Go.Ev
open Go Go.Proofs
set_option maxRecDepth 10000
theorem r116 (l : List Rx) (hl : l.length ≤ 1048576) (hc : ∀ x ∈ l, run EE 88 [(Rx.enc x)] [] = some ((Rx.enc x), [])) : run EE 116 [.slc false 3 (l.map Rx.enc)] [] = some (.slc false 3 (l.map Rx.enc), []) := by
 rw [run_eq EE 116 _ _ Tryz.func116 (by decide +kernel) rfl (show 1 ≤ _ by decide)]
 dsimp only [Tryz.f116]
 have h8 : (l.length : Int) * 48 ≤ 140737488355328 := by omega
 simp only [go_sem, h8]
 refine iter_inv (fun i : Nat => i ≤ l.length) (fun i => { t := upd (upd (upd (e0) 4 (.int .i64 i)) 3 (.aref 0 7 l.length)) 0 (.slc false 3 (l.map Rx.enc)), b := upd (n0) 7 (some (Ob.arr false 3 (fill Rx.enc l (dflt Tryz.prog 49) i))), o := [], r := #[ResultVar.tmp 2], f := 116, n := 23 }) (fun _ => some (.slc false 3 (l.map Rx.enc), [])) (fun i => l.length - i) ?_ 0 (Nat.zero_le _)
 intro i hi ih
 by_cases h : i < l.length
 · have h1 : (i : Int) < l.length := by omega
   have w := wrap_nat (n := i) (by omega)
   have hx := hc l[i] (List.getElem_mem h)
   simp only [Rx.enc_eq, Vals.enc, Mor.enc, Sta.enc, Con.enc, Line.enc, Ans.enc, Prob.enc, Prog.enc, Ses.enc, Equ.enc, Mon.enc, Frm.enc, Mov.enc, Stp.enc, Dfa.enc, IL, I, B] at hx
   simp only [go_sem, h, h1, w, getD_map h, fill_len Rx.enc l _ hi, hx]
   rw [fill_set Rx.enc l _ h _ (by simp only [Rx.enc_eq, Vals.enc, Mor.enc, Sta.enc, Con.enc, Line.enc, Ans.enc, Prob.enc, Prog.enc, Ses.enc, Equ.enc, Mon.enc, Frm.enc, Mov.enc, Stp.enc, Dfa.enc, IL, I, B])]
   exact ih (i + 1) (by omega) (by omega)
 · have h1 : ¬ (i : Int) < l.length := by omega
   obtain rfl : i = l.length := by omega
   simp only [go_sem, h1, fill_all]

theorem r88 (x : Rx) (hs : szT x.enc ≤ 1048576) : run EE 88 [x.enc] [] = some (x.enc, []) := by
 have hs' := hs
 simp only [Rx.enc_eq, Vals.enc, Mor.enc, Sta.enc, Con.enc, Line.enc, Ans.enc, Prob.enc, Prog.enc, Ses.enc, Equ.enc, Mon.enc, Frm.enc, Mov.enc, Stp.enc, Dfa.enc, IL, I, B, szT, szL, List.length_map] at hs'
 have hc : ∀ z ∈ x.args, run EE 88 [z.enc] [] = some (z.enc, []) := fun z hz => r88 z (Nat.le_trans (szL_mem (f := Rx.enc) hz) (by omega))
 have q0 := r116 x.args (by simp only [Rx.enc_eq, Vals.enc, Mor.enc, Sta.enc, Con.enc, Line.enc, Ans.enc, Prob.enc, Prog.enc, Ses.enc, Equ.enc, Mon.enc, Frm.enc, Mov.enc, Stp.enc, Dfa.enc, IL, I, B, szT, szL, List.length_map] at hs; omega) hc
 try simp only [Rx.enc_eq, Vals.enc, Mor.enc, Sta.enc, Con.enc, Line.enc, Ans.enc, Prob.enc, Prog.enc, Ses.enc, Equ.enc, Mon.enc, Frm.enc, Mov.enc, Stp.enc, Dfa.enc, IL, I, B] at q0
 rw [run_eq EE 88 _ _ Tryz.func88 (by decide +kernel) rfl (show 1 ≤ _ by decide)]
 dsimp only [Tryz.f88]
 simp only [go_sem, q0]
 termination_by SizeOf.sizeOf x
 decreasing_by exact Rx.lt _ hz

theorem r87 (x : Mor) (hs : szT x.enc ≤ 1048576) : run EE 87 [x.enc] [] = some (x.enc, []) := by
 have hs' := hs
 simp only [Rx.enc_eq, Vals.enc, Mor.enc, Sta.enc, Con.enc, Line.enc, Ans.enc, Prob.enc, Prog.enc, Ses.enc, Equ.enc, Mon.enc, Frm.enc, Mov.enc, Stp.enc, Dfa.enc, IL, I, B, szT, szL, List.length_map] at hs'
 rw [run_eq EE 87 _ _ Tryz.func87 (by decide +kernel) rfl (show 1 ≤ _ by decide)]
 dsimp only [Tryz.f87]
 simp only [go_sem]

theorem r46 (x : Line) (hs : szT x.enc ≤ 1048576) : run EE 46 [x.enc] [] = some (x.enc, []) := by
 have hs' := hs
 simp only [Rx.enc_eq, Vals.enc, Mor.enc, Sta.enc, Con.enc, Line.enc, Ans.enc, Prob.enc, Prog.enc, Ses.enc, Equ.enc, Mon.enc, Frm.enc, Mov.enc, Stp.enc, Dfa.enc, IL, I, B, szT, szL, List.length_map] at hs'
 have q0 := r87 x.mor (by simp only [Rx.enc_eq, Vals.enc, Mor.enc, Sta.enc, Con.enc, Line.enc, Ans.enc, Prob.enc, Prog.enc, Ses.enc, Equ.enc, Mon.enc, Frm.enc, Mov.enc, Stp.enc, Dfa.enc, IL, I, B, szT, szL, List.length_map] at hs ⊢; omega)
 try simp only [Rx.enc_eq, Vals.enc, Mor.enc, Sta.enc, Con.enc, Line.enc, Ans.enc, Prob.enc, Prog.enc, Ses.enc, Equ.enc, Mon.enc, Frm.enc, Mov.enc, Stp.enc, Dfa.enc, IL, I, B] at q0
 have q1 := r88 x.regex (by simp only [Rx.enc_eq, Vals.enc, Mor.enc, Sta.enc, Con.enc, Line.enc, Ans.enc, Prob.enc, Prog.enc, Ses.enc, Equ.enc, Mon.enc, Frm.enc, Mov.enc, Stp.enc, Dfa.enc, IL, I, B, szT, szL, List.length_map] at hs ⊢; omega)
 try simp only [Rx.enc_eq, Vals.enc, Mor.enc, Sta.enc, Con.enc, Line.enc, Ans.enc, Prob.enc, Prog.enc, Ses.enc, Equ.enc, Mon.enc, Frm.enc, Mov.enc, Stp.enc, Dfa.enc, IL, I, B] at q1
 rw [run_eq EE 46 _ _ Tryz.func46 (by decide +kernel) rfl (show 1 ≤ _ by decide)]
 dsimp only [Tryz.f46]
 simp only [go_sem, q0, q1]

theorem r19 (l : List Line) (hl : l.length ≤ 1048576) (hc : ∀ x ∈ l, run EE 46 [(Line.enc x)] [] = some ((Line.enc x), [])) : run EE 19 [.slc false 8 (l.map Line.enc)] [] = some (.slc false 8 (l.map Line.enc), []) := by
 rw [run_eq EE 19 _ _ Tryz.func19 (by decide +kernel) rfl (show 1 ≤ _ by decide)]
 dsimp only [Tryz.f19]
 have h8 : (l.length : Int) * 120 ≤ 140737488355328 := by omega
 simp only [go_sem, h8]
 refine iter_inv (fun i : Nat => i ≤ l.length) (fun i => { t := upd (upd (upd (e0) 4 (.int .i64 i)) 3 (.aref 0 7 l.length)) 0 (.slc false 8 (l.map Line.enc)), b := upd (n0) 7 (some (Ob.arr false 8 (fill Line.enc l (dflt Tryz.prog 32) i))), o := [], r := #[ResultVar.tmp 2], f := 19, n := 23 }) (fun _ => some (.slc false 8 (l.map Line.enc), [])) (fun i => l.length - i) ?_ 0 (Nat.zero_le _)
 intro i hi ih
 by_cases h : i < l.length
 · have h1 : (i : Int) < l.length := by omega
   have w := wrap_nat (n := i) (by omega)
   have hx := hc l[i] (List.getElem_mem h)
   simp only [Rx.enc_eq, Vals.enc, Mor.enc, Sta.enc, Con.enc, Line.enc, Ans.enc, Prob.enc, Prog.enc, Ses.enc, Equ.enc, Mon.enc, Frm.enc, Mov.enc, Stp.enc, Dfa.enc, IL, I, B] at hx
   simp only [go_sem, h, h1, w, getD_map h, fill_len Line.enc l _ hi, hx]
   rw [fill_set Line.enc l _ h _ (by simp only [Rx.enc_eq, Vals.enc, Mor.enc, Sta.enc, Con.enc, Line.enc, Ans.enc, Prob.enc, Prog.enc, Ses.enc, Equ.enc, Mon.enc, Frm.enc, Mov.enc, Stp.enc, Dfa.enc, IL, I, B])]
   exact ih (i + 1) (by omega) (by omega)
 · have h1 : ¬ (i : Int) < l.length := by omega
   obtain rfl : i = l.length := by omega
   simp only [go_sem, h1, fill_all]

theorem r7 (x : Prog) (hs : szT x.enc ≤ 1048576) : run EE 7 [x.enc] [] = some (x.enc, []) := by
 have hs' := hs
 simp only [Rx.enc_eq, Vals.enc, Mor.enc, Sta.enc, Con.enc, Line.enc, Ans.enc, Prob.enc, Prog.enc, Ses.enc, Equ.enc, Mon.enc, Frm.enc, Mov.enc, Stp.enc, Dfa.enc, IL, I, B, szT, szL, List.length_map] at hs'
 have q0 := r19 x.lines (by simp only [Rx.enc_eq, Vals.enc, Mor.enc, Sta.enc, Con.enc, Line.enc, Ans.enc, Prob.enc, Prog.enc, Ses.enc, Equ.enc, Mon.enc, Frm.enc, Mov.enc, Stp.enc, Dfa.enc, IL, I, B, szT, szL, List.length_map] at hs; omega) (fun z hz => r46 z (Nat.le_trans (szL_mem (f := Line.enc) hz) (by simp only [Rx.enc_eq, Vals.enc, Mor.enc, Sta.enc, Con.enc, Line.enc, Ans.enc, Prob.enc, Prog.enc, Ses.enc, Equ.enc, Mon.enc, Frm.enc, Mov.enc, Stp.enc, Dfa.enc, IL, I, B, szT, szL, List.length_map] at hs; omega)))
 try simp only [Rx.enc_eq, Vals.enc, Mor.enc, Sta.enc, Con.enc, Line.enc, Ans.enc, Prob.enc, Prog.enc, Ses.enc, Equ.enc, Mon.enc, Frm.enc, Mov.enc, Stp.enc, Dfa.enc, IL, I, B] at q0
 rw [run_eq EE 7 _ _ Tryz.func7 (by decide +kernel) rfl (show 1 ≤ _ by decide)]
 dsimp only [Tryz.f7]
 simp only [go_sem, q0]
end Go.Ev
namespace Go.Ev
open Go Go.Proofs
set_option maxRecDepth 10000
theorem r129 (l m : List Rx) (hl : l.length ≤ 1048576) (hc : ∀ x ∈ l, ∀ y : Rx, run EE 103 [(Rx.enc x), (Rx.enc y)] [] = some (.bool (veq (Rx.enc x) (Rx.enc y)), [])) : run EE 129 [.slc false 3 (l.map Rx.enc), .slc false 3 (m.map Rx.enc)] [] = some (.bool (veqs (l.map Rx.enc) (m.map Rx.enc)), []) := by
 rw [run_eq EE 129 _ _ Tryz.func129 (by decide +kernel) rfl (show 2 ≤ _ by decide)]
 dsimp only [Tryz.f129]
 by_cases hn : l.length = m.length
 · have hn' : (l.length : Int) = m.length := by omega
   simp only [go_sem, hn', bne_self_eq_false]
   refine iter_inv (fun i : Nat => i ≤ l.length) (fun i => { t := upd (upd (upd (e0) 5 (.int .i64 i)) 1 (.slc false 3 (m.map Rx.enc))) 0 (.slc false 3 (l.map Rx.enc)), b := n0, o := [], r := #[ResultVar.tmp 4], f := 129, n := 27 }) (fun i => some (.bool (veqs ((l.drop i).map Rx.enc) ((m.drop i).map Rx.enc)), [])) (fun i => l.length - i) ?_ 0 (Nat.zero_le _)
   intro i hi ih
   by_cases h : i < l.length
   · have h1 : (i : Int) < l.length := by omega
     have h1' : (i : Int) < m.length := by omega
     have h' : i < m.length := by omega
     have w := wrap_nat (n := i) (by omega)
     have hx := hc l[i] (List.getElem_mem h) m[i]
     rw [List.drop_eq_getElem_cons h, List.drop_eq_getElem_cons h', List.map_cons, List.map_cons, veqs_cons]
     generalize veq (Rx.enc l[i]) (Rx.enc m[i]) = r at hx ⊢
     simp only [Rx.enc_eq, Vals.enc, Mor.enc, Sta.enc, Con.enc, Line.enc, Ans.enc, Prob.enc, Prog.enc, Ses.enc, Equ.enc, Mon.enc, Frm.enc, Mov.enc, Stp.enc, Dfa.enc, IL, I, B] at hx
     simp only [go_sem, h1, h1']
     rw [q_drawn]
     rotate_left
     · kernel_rfl
     simp only [go_sem, h1, h1', w, getD_map h, getD_map h', hx]
     cases r
     · simp only [go_sem, Bool.not_false, Bool.false_and]
     · simp only [go_sem, w, Bool.not_true, Bool.true_and]
       exact ih (i + 1) (by omega) (by omega)
   · have h1 : ¬ (i : Int) < l.length := by omega
     have h1' : ¬ (i : Int) < m.length := by omega
     have e1 : l.drop i = [] := List.drop_eq_nil_of_le (by omega)
     have e2 : m.drop i = [] := List.drop_eq_nil_of_le (by omega)
     simp only [go_sem, h1, h1', e1, e2, List.map_nil, veqs]
 · have hn' : ((l.length : Int) != m.length) = true := by simp; omega
   simp only [go_sem, hn']
   rw [veqs_ne (by simpa using hn)]

theorem r103 (x y : Rx) (hs : szT x.enc ≤ 1048576) : run EE 103 [x.enc, y.enc] [] = some (.bool (veq x.enc y.enc), []) := by
 have hs' := hs
 simp only [Rx.enc_eq, Vals.enc, Mor.enc, Sta.enc, Con.enc, Line.enc, Ans.enc, Prob.enc, Prog.enc, Ses.enc, Equ.enc, Mon.enc, Frm.enc, Mov.enc, Stp.enc, Dfa.enc, IL, I, B, szT, szL, List.length_map] at hs'
 have hc : ∀ z ∈ x.args, ∀ v : Rx, run EE 103 [z.enc, v.enc] [] = some (.bool (veq z.enc v.enc), []) := fun z hz v => r103 z v (Nat.le_trans (szL_mem (f := Rx.enc) hz) (by omega))
 have q0 := r129 x.args y.args (by simp only [Rx.enc_eq, Vals.enc, Mor.enc, Sta.enc, Con.enc, Line.enc, Ans.enc, Prob.enc, Prog.enc, Ses.enc, Equ.enc, Mon.enc, Frm.enc, Mov.enc, Stp.enc, Dfa.enc, IL, I, B, szT, szL, List.length_map] at hs; omega) hc
 try simp only [Rx.enc_eq, Vals.enc, Mor.enc, Sta.enc, Con.enc, Line.enc, Ans.enc, Prob.enc, Prog.enc, Ses.enc, Equ.enc, Mon.enc, Frm.enc, Mov.enc, Stp.enc, Dfa.enc, IL, I, B] at q0
 rw [run_eq EE 103 _ _ Tryz.func103 (by decide +kernel) rfl (show 2 ≤ _ by decide)]
 dsimp only [Tryz.f103]
 simp only [go_sem, condL_b, bne, q0, veq, veqs]
 generalize (x.kind == y.kind) = b0
 generalize (x.letter.toList == y.letter.toList) = b1
 generalize (veqs (x.args.map Rx.enc) (y.args.map Rx.enc)) = b2
 cases b0 <;> cases b1 <;> cases b2 <;> rfl
 termination_by SizeOf.sizeOf x
 decreasing_by exact Rx.lt _ hz

theorem r102 (x y : Mor) (hs : szT x.enc ≤ 1048576) : run EE 102 [x.enc, y.enc] [] = some (.bool (veq x.enc y.enc), []) := by
 have hs' := hs
 simp only [Rx.enc_eq, Vals.enc, Mor.enc, Sta.enc, Con.enc, Line.enc, Ans.enc, Prob.enc, Prog.enc, Ses.enc, Equ.enc, Mon.enc, Frm.enc, Mov.enc, Stp.enc, Dfa.enc, IL, I, B, szT, szL, List.length_map] at hs'
 rw [run_eq EE 102 _ _ Tryz.func102 (by decide +kernel) rfl (show 2 ≤ _ by decide)]
 dsimp only [Tryz.f102]
 simp only [go_sem, condL_b, bne, veq, veqs]
 generalize (x.a.toList == y.a.toList) = b0
 generalize (x.b.toList == y.b.toList) = b1
 generalize (x.c.toList == y.c.toList) = b2
 cases b0 <;> cases b1 <;> cases b2 <;> rfl

theorem r62 (x y : Line) (hs : szT x.enc ≤ 1048576) : run EE 62 [x.enc, y.enc] [] = some (.bool (veq x.enc y.enc), []) := by
 have hs' := hs
 simp only [Rx.enc_eq, Vals.enc, Mor.enc, Sta.enc, Con.enc, Line.enc, Ans.enc, Prob.enc, Prog.enc, Ses.enc, Equ.enc, Mon.enc, Frm.enc, Mov.enc, Stp.enc, Dfa.enc, IL, I, B, szT, szL, List.length_map] at hs'
 have q0 := r102 x.mor y.mor (by simp only [Rx.enc_eq, Vals.enc, Mor.enc, Sta.enc, Con.enc, Line.enc, Ans.enc, Prob.enc, Prog.enc, Ses.enc, Equ.enc, Mon.enc, Frm.enc, Mov.enc, Stp.enc, Dfa.enc, IL, I, B, szT, szL, List.length_map] at hs ⊢; omega)
 try simp only [Rx.enc_eq, Vals.enc, Mor.enc, Sta.enc, Con.enc, Line.enc, Ans.enc, Prob.enc, Prog.enc, Ses.enc, Equ.enc, Mon.enc, Frm.enc, Mov.enc, Stp.enc, Dfa.enc, IL, I, B] at q0
 have q1 := r103 x.regex y.regex (by simp only [Rx.enc_eq, Vals.enc, Mor.enc, Sta.enc, Con.enc, Line.enc, Ans.enc, Prob.enc, Prog.enc, Ses.enc, Equ.enc, Mon.enc, Frm.enc, Mov.enc, Stp.enc, Dfa.enc, IL, I, B, szT, szL, List.length_map] at hs ⊢; omega)
 try simp only [Rx.enc_eq, Vals.enc, Mor.enc, Sta.enc, Con.enc, Line.enc, Ans.enc, Prob.enc, Prog.enc, Ses.enc, Equ.enc, Mon.enc, Frm.enc, Mov.enc, Stp.enc, Dfa.enc, IL, I, B] at q1
 rw [run_eq EE 62 _ _ Tryz.func62 (by decide +kernel) rfl (show 2 ≤ _ by decide)]
 dsimp only [Tryz.f62]
 simp only [go_sem, condL_b, bne, q0, q1, veq, veqs]
 generalize (x.kind == y.kind) = b0
 generalize (x.text.toList == y.text.toList) = b1
 generalize (x.mor.a.toList == y.mor.a.toList) = b2
 generalize (x.mor.b.toList == y.mor.b.toList) = b3
 generalize (x.mor.c.toList == y.mor.c.toList) = b4
 generalize (x.regex.kind == y.regex.kind) = b5
 generalize (x.regex.letter.toList == y.regex.letter.toList) = b6
 generalize (veqs (x.regex.args.map Rx.enc) (y.regex.args.map Rx.enc)) = b7
 cases b0 <;> cases b1 <;> cases b2 <;> cases b3 <;> cases b4 <;> cases b5 <;> cases b6 <;> cases b7 <;> rfl

theorem r30 (l m : List Line) (hl : l.length ≤ 1048576) (hc : ∀ x ∈ l, ∀ y : Line, run EE 62 [(Line.enc x), (Line.enc y)] [] = some (.bool (veq (Line.enc x) (Line.enc y)), [])) : run EE 30 [.slc false 8 (l.map Line.enc), .slc false 8 (m.map Line.enc)] [] = some (.bool (veqs (l.map Line.enc) (m.map Line.enc)), []) := by
 rw [run_eq EE 30 _ _ Tryz.func30 (by decide +kernel) rfl (show 2 ≤ _ by decide)]
 dsimp only [Tryz.f30]
 by_cases hn : l.length = m.length
 · have hn' : (l.length : Int) = m.length := by omega
   simp only [go_sem, hn', bne_self_eq_false]
   refine iter_inv (fun i : Nat => i ≤ l.length) (fun i => { t := upd (upd (upd (e0) 5 (.int .i64 i)) 1 (.slc false 8 (m.map Line.enc))) 0 (.slc false 8 (l.map Line.enc)), b := n0, o := [], r := #[ResultVar.tmp 4], f := 30, n := 27 }) (fun i => some (.bool (veqs ((l.drop i).map Line.enc) ((m.drop i).map Line.enc)), [])) (fun i => l.length - i) ?_ 0 (Nat.zero_le _)
   intro i hi ih
   by_cases h : i < l.length
   · have h1 : (i : Int) < l.length := by omega
     have h1' : (i : Int) < m.length := by omega
     have h' : i < m.length := by omega
     have w := wrap_nat (n := i) (by omega)
     have hx := hc l[i] (List.getElem_mem h) m[i]
     rw [List.drop_eq_getElem_cons h, List.drop_eq_getElem_cons h', List.map_cons, List.map_cons, veqs_cons]
     generalize veq (Line.enc l[i]) (Line.enc m[i]) = r at hx ⊢
     simp only [Rx.enc_eq, Vals.enc, Mor.enc, Sta.enc, Con.enc, Line.enc, Ans.enc, Prob.enc, Prog.enc, Ses.enc, Equ.enc, Mon.enc, Frm.enc, Mov.enc, Stp.enc, Dfa.enc, IL, I, B] at hx
     simp only [go_sem, h1, h1']
     rw [q_drawn]
     rotate_left
     · kernel_rfl
     simp only [go_sem, h1, h1', w, getD_map h, getD_map h', hx]
     cases r
     · simp only [go_sem, Bool.not_false, Bool.false_and]
     · simp only [go_sem, w, Bool.not_true, Bool.true_and]
       exact ih (i + 1) (by omega) (by omega)
   · have h1 : ¬ (i : Int) < l.length := by omega
     have h1' : ¬ (i : Int) < m.length := by omega
     have e1 : l.drop i = [] := List.drop_eq_nil_of_le (by omega)
     have e2 : m.drop i = [] := List.drop_eq_nil_of_le (by omega)
     simp only [go_sem, h1, h1', e1, e2, List.map_nil, veqs]
 · have hn' : ((l.length : Int) != m.length) = true := by simp; omega
   simp only [go_sem, hn']
   rw [veqs_ne (by simpa using hn)]

theorem r10 (x y : Prog) (hs : szT x.enc ≤ 1048576) : run EE 10 [x.enc, y.enc] [] = some (.bool (veq x.enc y.enc), []) := by
 have hs' := hs
 simp only [Rx.enc_eq, Vals.enc, Mor.enc, Sta.enc, Con.enc, Line.enc, Ans.enc, Prob.enc, Prog.enc, Ses.enc, Equ.enc, Mon.enc, Frm.enc, Mov.enc, Stp.enc, Dfa.enc, IL, I, B, szT, szL, List.length_map] at hs'
 have q0 := r30 x.lines y.lines (by simp only [Rx.enc_eq, Vals.enc, Mor.enc, Sta.enc, Con.enc, Line.enc, Ans.enc, Prob.enc, Prog.enc, Ses.enc, Equ.enc, Mon.enc, Frm.enc, Mov.enc, Stp.enc, Dfa.enc, IL, I, B, szT, szL, List.length_map] at hs; omega) (fun z hz v => r62 z v (Nat.le_trans (szL_mem (f := Line.enc) hz) (by simp only [Rx.enc_eq, Vals.enc, Mor.enc, Sta.enc, Con.enc, Line.enc, Ans.enc, Prob.enc, Prog.enc, Ses.enc, Equ.enc, Mon.enc, Frm.enc, Mov.enc, Stp.enc, Dfa.enc, IL, I, B, szT, szL, List.length_map] at hs; omega)))
 try simp only [Rx.enc_eq, Vals.enc, Mor.enc, Sta.enc, Con.enc, Line.enc, Ans.enc, Prob.enc, Prog.enc, Ses.enc, Equ.enc, Mon.enc, Frm.enc, Mov.enc, Stp.enc, Dfa.enc, IL, I, B] at q0
 rw [run_eq EE 10 _ _ Tryz.func10 (by decide +kernel) rfl (show 2 ≤ _ by decide)]
 dsimp only [Tryz.f10]
 simp only [go_sem, condL_b, bne, q0, veq, veqs]
 generalize (veqs (x.lines.map Line.enc) (y.lines.map Line.enc)) = b0
 cases b0 <;> rfl
end Go.Ev
namespace Go.Ev
open Go Go.Proofs
set_option maxRecDepth 10000

theorem line_sz (l : Line) (h : szT l.enc ≤ 1048576) : lineSz l := by
 unfold lineSz
 simp only [Line.enc, Rx.enc_eq, szT, szL] at h ⊢
 omega
theorem safeR_parts (ls : List Line) : ∃ (b : Bool) (s : ByteArray) (c : Bool), safeR ls = .tup [.bool b, .str s, .bool c] := by
 unfold safeR
 split
 · split
   · exact ⟨_, _, _, rfl⟩
   · split <;> exact ⟨_, _, _, rfl⟩
 · exact ⟨_, _, _, rfl⟩
theorem law4 (x : Prog) (ox : okV x.enc) : run EE 4 [x.enc] [] = some (.bool true, []) := by
 have z1 := r5 x ox 1048576 (by omega) (by omega)
 unfold szR at z1
 generalize hn1 : szT x.enc = n1 at z1
 simp only [Prog.enc] at z1
 rw [run_eq EE 4 _ _ Tryz.func4 (by decide +kernel) rfl (show 1 ≤ _ by decide)]
 dsimp only [Tryz.f4]
 simp only [go_sem, z1]
 refine condL_dec (fun c1 => ?_) (fun c1 => ?_)
 · simp only [go_sem]
 obtain ⟨e1, b1⟩ := leftOf_ge c1
 have hn1' := hn1
 simp only [Prog.enc, szT, szL, List.length_map] at hn1'
 have hS : ∀ z ∈ x.lines, szT z.enc ≤ 1048576 := fun z hz => by have := szL_mem (f := Line.enc) hz; omega
 have tx := r7 x (by omega)
 have sp := r14 x.lines (by omega) (fun z hz => line_sz z (hS z hz))
 have im := r15 x.lines (by omega) (fun z hz => line_sz z (hS z hz))
 have ex := r10 x x (by omega)
 rw [veq_refl] at ex
 obtain ⟨b, s, c, hR⟩ := safeR_parts x.lines
 rw [hR] at sp im
 simp only [Prog.enc] at tx ex
 have eb : (b != b) = false := by cases b <;> rfl
 have ec : (c != c) = false := by cases c <;> rfl
 simp only [go_sem, e1, tx, sp, im, eb, ec, bne_self_eq_false]
 rw [q_drawn]
 rotate_left
 · kernel_rfl
 simp only [go_sem, tx, ex, Bool.not_true]
end Go.Ev
namespace Go.Ev.Op
open Go Go.Proofs Go.RowKit Go.Ev
set_option maxRecDepth 10000
theorem tyOk_struct {P : Program} {t : TypeId} {n : Nat} {vs : List V} {L : List (TypeId × Nat)} (h0 : fieldsOf P t = some L) (h : TyOk P (n + 1) t vs) : vs.length = P.cellsOf t ∧ ∀ p ∈ L, TyOk P n p.1 ((vs.drop p.2).take (P.cellsOf p.1)) := by
 unfold fieldsOf at h0
 simp only [TyOk] at h
 split at h0
 · rename_i fs hu
   rw [hu] at h
   obtain rfl := Option.some.inj h0
   refine ⟨h.1, fun p hp => ?_⟩
   obtain ⟨f, hf, rfl⟩ := List.mem_map.1 hp
   exact h.2 f hf
 · cases h0
theorem tyOk_int {P : Program} {t : TypeId} {n : Nat} {vs : List V} {k : IntKind} (hu : P.underlying t = some (.int k)) (h : TyOk P n t vs) : ∃ m, vs = [.int k m] ∧ (Lit.int k m).wf = true := by
 cases n with
 | zero => cases h
 | succ n => simpa only [TyOk, hu] using h
theorem tyOk_str {P : Program} {t : TypeId} {n : Nat} {vs : List V} (hu : P.underlying t = some .string) (h : TyOk P n t vs) : ∃ m : ByteArray, vs = [.str m] ∧ m.size ≤ 9223372036854775807 := by
 cases n with
 | zero => cases h
 | succ n =>
   simp only [TyOk, hu] at h
   exact h
theorem list_of {α : Type} {f : α → V} : ∀ {l : List V}, (∀ x ∈ l, ∃ a : α, x = f a ∧ okV (f a)) → ∃ asx : List α, l = asx.map f ∧ okL (asx.map f) := by
 intro l
 induction l with
 | nil => intro _; exact ⟨[], rfl, trivial⟩
 | cons b l ih =>
   intro h
   obtain ⟨a, rfl, ha⟩ := h b (List.mem_cons_self ..)
   obtain ⟨asx, rfl, hs⟩ := ih fun x hx => h x (List.mem_cons_of_mem _ hx)
   exact ⟨a :: asx, rfl, ha, hs⟩
theorem tyOk_slc {P : Program} {t e : TypeId} {n : Nat} {vs : List V} {α : Type} {f : α → V} (hu : P.underlying t = some (.slice e)) (he : ∀ us, TyOk P n e us → ∃ a : α, pack (isAgg P e) us = f a ∧ okV (f a)) (h : TyOk P (n + 1) t vs) :
   ∃ l : List α, vs = [.slc false (P.cellsOf e) (l.map f)] ∧ l.length ≤ 9223372036854775807 ∧ okL (l.map f) := by
 simp only [TyOk, hu] at h
 obtain ⟨l, rfl, hl, hx⟩ := h
 obtain ⟨asx, rfl, hs⟩ := list_of (f := f) (l := l) fun x hm => by
   obtain ⟨us, rfl, h1, _⟩ := hx x hm
   exact he us h1
 exact ⟨asx, rfl, by rw [List.length_map] at hl; exact hl, hs⟩
theorem tyOk_slcR {P : Program} {t e : TypeId} {n : Nat} {vs : List V} {α : Type} {f : α → V} (hu : P.underlying t = some (.slice e)) (he : ∀ m, m < n → ∀ us, TyOk P m e us → ∃ a : α, pack (isAgg P e) us = f a ∧ okV (f a)) (h : TyOk P n t vs) :
   ∃ l : List α, vs = [.slc false (P.cellsOf e) (l.map f)] ∧ l.length ≤ 9223372036854775807 ∧ okL (l.map f) := by
 cases n with
 | zero => cases h
 | succ n => exact tyOk_slc hu (he n (Nat.lt_succ_self n)) h
theorem ty_agg {P : Program} {e : TypeId} {us : List V} {α : Type} {f : α → V} (ha : isAgg P e = true) (h : ∃ a : α, V.agg us = f a ∧ okV (f a)) : ∃ a : α, pack (isAgg P e) us = f a ∧ okV (f a) := by
 rw [ha]; exact h
theorem un3 : Tryz.prog.underlying 3 = some (.int .i64) := by kernel_rfl
theorem ce3 : Tryz.prog.cellsOf 3 = 1 := by kernel_rfl
theorem un9 : Tryz.prog.underlying 9 = some .string := by kernel_rfl
theorem ce9 : Tryz.prog.cellsOf 9 = 1 := by kernel_rfl
theorem fo70 : fieldsOf Tryz.prog 70 = some [(9, 0), (9, 1), (9, 2)] := by kernel_rfl
theorem ce70 : Tryz.prog.cellsOf 70 = 3 := by kernel_rfl
theorem ty70 : ∀ (n : Nat) (vs : List V), TyOk Tryz.prog n 70 vs → ∃ x : Mor, V.agg vs = x.enc ∧ okV x.enc := by
 intro n
 induction n using Nat.strongRecOn with
 | _ n ih =>
 cases n with
 | zero => intro vs h; cases h
 | succ n =>
   intro vs h
   obtain ⟨hl, hf⟩ := tyOk_struct fo70 h
   rw [ce70] at hl
   match vs, hl with
   | [a0, a1, a2], _ =>
     have h0 := hf (9, 0) (by simp)
     dsimp only at h0
     rw [ce9] at h0
     simp only [List.drop_succ_cons, List.drop_zero, List.take_succ_cons, List.take_zero] at h0
     obtain ⟨m0, e0, o0⟩ := tyOk_str un9 h0
     obtain rfl : a0 = _ := (List.cons.inj e0).1
     have h1 := hf (9, 1) (by simp)
     dsimp only at h1
     rw [ce9] at h1
     simp only [List.drop_succ_cons, List.drop_zero, List.take_succ_cons, List.take_zero] at h1
     obtain ⟨m1, e1, o1⟩ := tyOk_str un9 h1
     obtain rfl : a1 = _ := (List.cons.inj e1).1
     have h2 := hf (9, 2) (by simp)
     dsimp only at h2
     rw [ce9] at h2
     simp only [List.drop_succ_cons, List.drop_zero, List.take_succ_cons, List.take_zero] at h2
     obtain ⟨m2, e2, o2⟩ := tyOk_str un9 h2
     obtain rfl : a2 = _ := (List.cons.inj e2).1
     refine ⟨⟨m0, m1, m2⟩, ?_, ?_⟩
     · simp only [Rx.enc_eq, Vals.enc, Mor.enc, Sta.enc, Con.enc, Line.enc, Ans.enc, Prob.enc, Prog.enc, Ses.enc, Equ.enc, Mon.enc, Frm.enc, Mov.enc, Stp.enc, Dfa.enc, IL, I, B, V.agg.injEq, List.cons.injEq, and_true, true_and]
     · simp only [Rx.enc_eq, Vals.enc, Mor.enc, Sta.enc, Con.enc, Line.enc, Ans.enc, Prob.enc, Prog.enc, Ses.enc, Equ.enc, Mon.enc, Frm.enc, Mov.enc, Stp.enc, Dfa.enc, IL, I, B, okV, okL, List.length_map, and_true, true_and]
       simp only [o0, o1, o2, and_self]
theorem un71 : Tryz.prog.underlying 71 = some (.slice 73) := by kernel_rfl
theorem ce71 : Tryz.prog.cellsOf 71 = 1 := by kernel_rfl
theorem ag73 : isAgg Tryz.prog 73 = true := by kernel_rfl
theorem fo73 : fieldsOf Tryz.prog 73 = some [(3, 0), (9, 1), (71, 2)] := by kernel_rfl
theorem ce73 : Tryz.prog.cellsOf 73 = 3 := by kernel_rfl
theorem ty73 : ∀ (n : Nat) (vs : List V), TyOk Tryz.prog n 73 vs → ∃ x : Rx, V.agg vs = x.enc ∧ okV x.enc := by
 intro n
 induction n using Nat.strongRecOn with
 | _ n ih =>
 cases n with
 | zero => intro vs h; cases h
 | succ n =>
   intro vs h
   obtain ⟨hl, hf⟩ := tyOk_struct fo73 h
   rw [ce73] at hl
   match vs, hl with
   | [a0, a1, a2], _ =>
     have h0 := hf (3, 0) (by simp)
     dsimp only at h0
     rw [ce3] at h0
     simp only [List.drop_succ_cons, List.drop_zero, List.take_succ_cons, List.take_zero] at h0
     obtain ⟨m0, e0, o0⟩ := tyOk_int un3 h0
     obtain rfl : a0 = _ := (List.cons.inj e0).1
     have h1 := hf (9, 1) (by simp)
     dsimp only at h1
     rw [ce9] at h1
     simp only [List.drop_succ_cons, List.drop_zero, List.take_succ_cons, List.take_zero] at h1
     obtain ⟨m1, e1, o1⟩ := tyOk_str un9 h1
     obtain rfl : a1 = _ := (List.cons.inj e1).1
     have h2 := hf (71, 2) (by simp)
     dsimp only at h2
     rw [ce71] at h2
     simp only [List.drop_succ_cons, List.drop_zero, List.take_succ_cons, List.take_zero] at h2
     obtain ⟨m2, e2, l2, o2⟩ := tyOk_slcR un71 (fun m hm us hu => ty_agg ag73 (ih m (by omega) us hu)) h2
     obtain rfl : a2 = _ := (List.cons.inj e2).1
     rw [ce73]
     refine ⟨⟨m0, m1, m2⟩, ?_, ?_⟩
     · simp only [Rx.enc_eq, Vals.enc, Mor.enc, Sta.enc, Con.enc, Line.enc, Ans.enc, Prob.enc, Prog.enc, Ses.enc, Equ.enc, Mon.enc, Frm.enc, Mov.enc, Stp.enc, Dfa.enc, IL, I, B, V.agg.injEq, List.cons.injEq, and_true, true_and]
     · simp only [Rx.enc_eq, Vals.enc, Mor.enc, Sta.enc, Con.enc, Line.enc, Ans.enc, Prob.enc, Prog.enc, Ses.enc, Equ.enc, Mon.enc, Frm.enc, Mov.enc, Stp.enc, Dfa.enc, IL, I, B, okV, okL, List.length_map, and_true, true_and]
       simp only [o0, o1, l2, o2, and_self]
theorem fo75 : fieldsOf Tryz.prog 75 = some [(3, 0), (9, 1), (70, 2), (73, 5)] := by kernel_rfl
theorem ce75 : Tryz.prog.cellsOf 75 = 8 := by kernel_rfl
theorem ty75 : ∀ (n : Nat) (vs : List V), TyOk Tryz.prog n 75 vs → ∃ x : Line, V.agg vs = x.enc ∧ okV x.enc := by
 intro n
 induction n using Nat.strongRecOn with
 | _ n ih =>
 cases n with
 | zero => intro vs h; cases h
 | succ n =>
   intro vs h
   obtain ⟨hl, hf⟩ := tyOk_struct fo75 h
   rw [ce75] at hl
   match vs, hl with
   | [a0, a1, a2, a3, a4, a5, a6, a7], _ =>
     have h0 := hf (3, 0) (by simp)
     dsimp only at h0
     rw [ce3] at h0
     simp only [List.drop_succ_cons, List.drop_zero, List.take_succ_cons, List.take_zero] at h0
     obtain ⟨m0, e0, o0⟩ := tyOk_int un3 h0
     obtain rfl : a0 = _ := (List.cons.inj e0).1
     have h1 := hf (9, 1) (by simp)
     dsimp only at h1
     rw [ce9] at h1
     simp only [List.drop_succ_cons, List.drop_zero, List.take_succ_cons, List.take_zero] at h1
     obtain ⟨m1, e1, o1⟩ := tyOk_str un9 h1
     obtain rfl : a1 = _ := (List.cons.inj e1).1
     have h2 := hf (70, 2) (by simp)
     dsimp only at h2
     rw [ce70] at h2
     simp only [List.drop_succ_cons, List.drop_zero, List.take_succ_cons, List.take_zero] at h2
     obtain ⟨m2, e2, o2⟩ := ty70 _ _ h2
     have h3 := hf (73, 5) (by simp)
     dsimp only at h3
     rw [ce73] at h3
     simp only [List.drop_succ_cons, List.drop_zero, List.take_succ_cons, List.take_zero] at h3
     obtain ⟨m3, e3, o3⟩ := ty73 _ _ h3
     refine ⟨⟨m0, m1, m2, m3⟩, ?_, ?_⟩
     · simp only [Rx.enc_eq, Vals.enc, Mor.enc, Sta.enc, Con.enc, Line.enc, Ans.enc, Prob.enc, Prog.enc, Ses.enc, Equ.enc, Mon.enc, Frm.enc, Mov.enc, Stp.enc, Dfa.enc, IL, I, B, V.agg.injEq, List.cons.injEq, and_true] at e2; simp only [Rx.enc_eq, Vals.enc, Mor.enc, Sta.enc, Con.enc, Line.enc, Ans.enc, Prob.enc, Prog.enc, Ses.enc, Equ.enc, Mon.enc, Frm.enc, Mov.enc, Stp.enc, Dfa.enc, IL, I, B, V.agg.injEq, List.cons.injEq, and_true] at e3; simp only [Rx.enc_eq, Vals.enc, Mor.enc, Sta.enc, Con.enc, Line.enc, Ans.enc, Prob.enc, Prog.enc, Ses.enc, Equ.enc, Mon.enc, Frm.enc, Mov.enc, Stp.enc, Dfa.enc, IL, I, B, V.agg.injEq, List.cons.injEq, and_true, true_and, e2, e3]
     · simp only [Rx.enc_eq, Vals.enc, Mor.enc, Sta.enc, Con.enc, Line.enc, Ans.enc, Prob.enc, Prog.enc, Ses.enc, Equ.enc, Mon.enc, Frm.enc, Mov.enc, Stp.enc, Dfa.enc, IL, I, B, okV, okL, List.length_map, and_true, true_and]
       simp only [Rx.enc_eq, Vals.enc, Mor.enc, Sta.enc, Con.enc, Line.enc, Ans.enc, Prob.enc, Prog.enc, Ses.enc, Equ.enc, Mon.enc, Frm.enc, Mov.enc, Stp.enc, Dfa.enc, IL, I, B, okV, okL, List.length_map, and_true, true_and] at o2
       simp only [Rx.enc_eq, Vals.enc, Mor.enc, Sta.enc, Con.enc, Line.enc, Ans.enc, Prob.enc, Prog.enc, Ses.enc, Equ.enc, Mon.enc, Frm.enc, Mov.enc, Stp.enc, Dfa.enc, IL, I, B, okV, okL, List.length_map, and_true, true_and] at o3
       simp only [o0, o1, o2, o3, and_self]
theorem un22 : Tryz.prog.underlying 22 = some (.slice 75) := by kernel_rfl
theorem ce22 : Tryz.prog.cellsOf 22 = 1 := by kernel_rfl
theorem ag75 : isAgg Tryz.prog 75 = true := by kernel_rfl
theorem ty22 : ∀ (n : Nat) (vs : List V), TyOk Tryz.prog n 22 vs → ∃ l : List Line, vs = [.slc false 8 (l.map Line.enc)] ∧ l.length ≤ 9223372036854775807 ∧ okL (l.map Line.enc) := by
 intro n vs h
 cases n with
 | zero => cases h
 | succ n =>
   obtain ⟨l, h1, h2, h3⟩ := tyOk_slc un22 (f := Line.enc) (fun us hu => ty_agg ag75 (ty75 _ _ hu)) h
   rw [ce75] at h1
   exact ⟨l, h1, h2, h3⟩
theorem fo24 : fieldsOf Tryz.prog 24 = some [(22, 0)] := by kernel_rfl
theorem ce24 : Tryz.prog.cellsOf 24 = 1 := by kernel_rfl
theorem ty24 : ∀ (n : Nat) (vs : List V), TyOk Tryz.prog n 24 vs → ∃ x : Prog, V.agg vs = x.enc ∧ okV x.enc := by
 intro n
 induction n using Nat.strongRecOn with
 | _ n ih =>
 cases n with
 | zero => intro vs h; cases h
 | succ n =>
   intro vs h
   obtain ⟨hl, hf⟩ := tyOk_struct fo24 h
   rw [ce24] at hl
   match vs, hl with
   | [a0], _ =>
     have h0 := hf (22, 0) (by simp)
     dsimp only at h0
     rw [ce22] at h0
     simp only [List.drop_succ_cons, List.drop_zero, List.take_succ_cons, List.take_zero] at h0
     obtain ⟨m0, e0, l0, o0⟩ := ty22 _ _ h0
     obtain rfl : a0 = _ := (List.cons.inj e0).1
     refine ⟨⟨m0⟩, ?_, ?_⟩
     · simp only [Rx.enc_eq, Vals.enc, Mor.enc, Sta.enc, Con.enc, Line.enc, Ans.enc, Prob.enc, Prog.enc, Ses.enc, Equ.enc, Mon.enc, Frm.enc, Mov.enc, Stp.enc, Dfa.enc, IL, I, B, V.agg.injEq, List.cons.injEq, and_true, true_and]
     · simp only [Rx.enc_eq, Vals.enc, Mor.enc, Sta.enc, Con.enc, Line.enc, Ans.enc, Prob.enc, Prog.enc, Ses.enc, Equ.enc, Mon.enc, Frm.enc, Mov.enc, Stp.enc, Dfa.enc, IL, I, B, okV, okL, List.length_map, and_true, true_and]
       simp only [l0, o0, and_self]
theorem closed : closedT Tryz.prog [3, 9, 70, 71, 73, 75, 22, 24] = true := by kernel_rfl
end Go.Ev.Op
