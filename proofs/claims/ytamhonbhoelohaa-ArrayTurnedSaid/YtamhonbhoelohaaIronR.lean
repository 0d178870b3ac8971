/- Iron: the machine that goes by itself, for several frames; how walks begin and end. -/
import Derived.Test.YtamhonbhoelohaaIronW
namespace Go.Iron

/-- How far the machine goes: whether it decides conditions, whether it goes round loops, into which functions it goes. -/
structure Fl where
  dec : Bool
  unr : Bool
  inl : List Nat

def pushB (J : TJ) (g : Nat) (as : List AV) (kd : CallKind) : Option AF := match lk J.fns g with
  | none => none
  | some gn => match gn.body with
    | none => none
    | some c => match Nat.ble as.length gn.ntmps with
      | true => some ⟨g, gn.ntmps, argsT as, [.code c], none, [], kd, .run⟩
      | false => none

/-- Operations that are calls. -/
def callS (J : TJ) (fl : Fl) (f n : Nat) (τ : Nat → AV) (todo : List Item) (rest : List Nat) (ops : Array Oper) (k : List Item) (rd : Option Nat) (D : List AV) (kd : CallKind) (S : List AF) (ar : List AO) (o : Oper) : Option (List AF × List AO × Ob) :=
  match o.op with
  | .call { callee := .value fo, args, .. } => match evA τ fo with
    | .fn (.func g) caps => match memN g fl.inl with
      | false => none
      | true => match pushB J g (app (evAs τ args.toList) caps) .normal with
        | none => none
        | some G => some (G :: ⟨f, n, τ, todo, rd, D, kd, .run⟩ :: S, ar, [])
    | .yld id => match nth ar id with
      | some (.loop st pd f2 n2 τ2 ps asg bd) => match Nat.beq ps.toList.length (evAs τ args.toList).length with
        | false => none
        | true => match allLt n2 ps.toList with
          | false => none
          | true => some (⟨f2, n2, updL τ2 ps.toList (evAs τ args.toList), [.code asg, .beginRound, .code bd], some id, [], .normal, .run⟩ :: ⟨f, n, τ, todo, rd, D, kd, .run⟩ :: S, ar, [])
      | _ => none
    | _ => none
  | .call { callee := .builtin .recover, .. } => match rd with
    | some _ => none
    | none => match kd with
      | .deferred => match dstOK n o.dst with
        | false => none
        | true => match S with
          | ⟨fB, nB, τB, tB, rdB, DB, kB, .panicking ({ v, recovered := false, goexit := false } :: older)⟩ :: S' => match toA v with
            | some x => some (⟨f, n, updO τ o.dst x, .inRegion ops rest :: k, none, D, .deferred, .run⟩ :: ⟨fB, nB, τB, tB, rdB, DB, kB, .panicking ({ v, recovered := true, goexit := false } :: older)⟩ :: S', ar, [])
            | none => none
          | ⟨fB, nB, τB, tB, rdB, DB, kB, .returning⟩ :: S' => some (⟨f, n, updO τ o.dst (.val .nilIface), .inRegion ops rest :: k, none, D, .deferred, .run⟩ :: ⟨fB, nB, τB, tB, rdB, DB, kB, .returning⟩ :: S', ar, [])
          | _ => none
      | _ => none
  | .defer { callee := .value fo, args, .. } => match rd with
    | some _ => none
    | none => match o.dst with
      | some _ => none
      | none => match evA τ fo with
        | .fn g caps => some (⟨f, n, τ, .inRegion ops rest :: k, none, .fn g (app (evAs τ args.toList) caps) :: D, kd, .run⟩ :: S, ar, [])
        | _ => none
  | .panic y => match evA τ y with
    | .ifc t x => match clV x with
      | some v => some (⟨f, n, τ, todo, rd, D, kd, .panicking [{ v := .iface t v, recovered := false }]⟩ :: S, ar, [])
      | none => none
    | _ => none
  | _ => none

def opS1 (I : TI) (J : TJ) (fl : Fl) (f n : Nat) (τ : Nat → AV) (todo : List Item) (rest : List Nat) (ops : Array Oper) (k : List Item) (rd : Option Nat) (D : List AV) (kd : CallKind) (S : List AF) (ar : List AO) (o : Oper) : Option (List AF × List AO × Ob) :=
  match o.guard with
  | none => match execQ I J τ ar o.op with
    | some (x, ob) => match dstOK n o.dst with
      | true => some (⟨f, n, updO τ o.dst x, .inRegion ops rest :: k, rd, D, kd, .run⟩ :: S, ar, ob)
      | false => none
    | none => match execM I τ ar o.op with
      | some (x, ar', ob) => match dstOK n o.dst with
        | true => some (⟨f, n, updO τ o.dst x, .inRegion ops rest :: k, rd, D, kd, .run⟩ :: S, ar', ob)
        | false => none
      | none => callS J fl f n τ todo rest ops k rd D kd S ar o
  | some (j, want) => match nth ops.toList j with
    | none => none
    | some oj => match oj.dst with
      | none => none
      | some dj => match Nat.blt dj n, o.dst with
        | true, some d => match Nat.blt d n with
          | false => none
          | true => match τ dj with
            | .val (.bool b) => match execQ I J (opS (tmpsOf o.op.operands.toList) (sops o.op) τ) ar o.op with
              | some (x, ob) => some (⟨f, n, upd τ d (.opt (b == want) x), .inRegion ops rest :: k, rd, D, kd, .run⟩ :: S, ar, app (obsOf (b == want) τ (sops o.op)) (cnd (b == want) ob))
              | none => none
            | .opt c (.val (.bool b)) => match execQ I J (opS (tmpsOf o.op.operands.toList) (sops o.op) τ) ar o.op with
              | some (x, ob) => some (⟨f, n, upd τ d (.opt (c && (b == want)) x), .inRegion ops rest :: k, rd, D, kd, .run⟩ :: S, ar, app (obsOf (c && (b == want)) τ (sops o.op)) (cnd (c && (b == want)) ob))
              | none => none
            | _ => none
        | _, _ => none

/-- The frame's round, or the frame, is over. -/
def leaveS (f n : Nat) (τ : Nat → AV) (todo : List Item) (rd : Option Nat) (D : List AV) (kd : CallKind) (S : List AF) (ar : List AO) : Option (List AF × List AO × Ob) :=
  match rd with
  | none => match todo with
    | [] => some (⟨f, n, τ, [], none, D, kd, .returning⟩ :: S, ar, [])
    | .code .ret :: k => some (⟨f, n, τ, .code .ret :: k, none, D, kd, .returning⟩ :: S, ar, [])
    | _ => none
  | some id => match kd with
    | .normal => match S with
      | [] => none
      | ⟨fB, nB, τB, tB, rdB, DB, kB, mB⟩ :: S' => match roundEnd todo with
        | none => none
        | some jump => match nth ar id with
          | some (.loop st pd f2 n2 τ2 ps asg bd) => match setN ar id (.loop (match jump with | none => .ready | some _ => .done) jump f2 n2 τ2 ps asg bd) with
            | none => none
            | some ar' => match finA τB tB (.val (.bool (match jump with | none => true | some _ => false))) with
              | none => none
              | some (τB2, tB2, d) => match dstOK nB d with
                | true => some (⟨fB, nB, τB2, tB2, rdB, DB, kB, mB⟩ :: S', ar', [])
                | false => none
          | _ => none
    | _ => none

def unwindS (I : TI) (J : TJ) (fl : Fl) (f n : Nat) (τ : Nat → AV) (todo : List Item) (rd : Option Nat) (D : List AV) (kd : CallKind) (md : FrameMode) (S : List AF) (ar : List AO) : Option (List AF × List AO × Ob) :=
  match D with
  | .yld id :: D' => match nth ar id with
    | some (.dfr true) => match setN ar id (.dfr false) with
      | some ar' => some (⟨f, n, τ, todo, rd, D', kd, md⟩ :: S, ar', [])
      | none => none
    | _ => none
  | .fn (.func g) as :: D' => match memN g fl.inl with
    | false => none
    | true => match pushB J g as .deferred with
      | none => none
      | some G => some (G :: ⟨f, n, τ, todo, rd, D', kd, md⟩ :: S, ar, [])
  | [] => match S with
    | [] => none
    | ⟨fB, nB, τB, tB, rdB, DB, kB, mB⟩ :: S' => match lk J.fns f with
      | none => none
      | some fn => match md with
        | .run => none
        | .panicking ch => some (⟨fB, nB, τB, tB, rdB, DB, kB, raiseM ch mB⟩ :: S', ar, [])
        | .returning => match resX I τ ar fn.results.toList with
          | none => none
          | some xs => match kd with
            | .normal => match finA τB tB (outA xs) with
              | none => none
              | some (τB2, tB2, d) => match dstOK nB d with
                | true => some (⟨fB, nB, τB2, tB2, rdB, DB, kB, mB⟩ :: S', ar, [])
                | false => none
            | .deferred => match afterD mB with
              | some mB2 => some (⟨fB, nB, τB, tB, rdB, DB, kB, mB2⟩ :: S', ar, [])
              | none => none
            | _ => none
  | _ => none

def takeN {α : Type} : Nat → List α → List α
  | 0, _ => []
  | _ + 1, [] => []
  | m + 1, x :: l => x :: takeN m l
theorem takeN_eq {α : Type} (m : Nat) (l : List α) : takeN m l = l.take m := by
  induction m generalizing l with
  | zero => rfl
  | succ m ih => cases l <;> simp [takeN, ih]

def lk2 (l : List (Nat × List (Nat × Nat))) (f id : Nat) : Option Nat := match lk l f with
  | some m => lk m id
  | none => none

def runStep (I : TI) (J : TJ) (fl : Fl) (f n : Nat) (τ : Nat → AV) (rd : Option Nat) (D : List AV) (kd : CallKind) (S : List AF) (ar : List AO) : List Item → Option (List AF × List AO × Ob)
  | .code (.seq x y) :: k => some (⟨f, n, τ, .code x :: .code y :: k, rd, D, kd, .run⟩ :: S, ar, [])
  | .code (.block id c) :: k => some (⟨f, n, τ, .code c :: .inBlock id :: k, rd, D, kd, .run⟩ :: S, ar, [])
  | .code (.scope c) :: k => some (⟨f, n, τ, .code c :: .inScope c :: k, rd, D, kd, .run⟩ :: S, ar, [])
  | .code .skip :: k => some (⟨f, n, τ, k, rd, D, kd, .run⟩ :: S, ar, [])
  | .code (.label _) :: k => some (⟨f, n, τ, k, rd, D, kd, .run⟩ :: S, ar, [])
  | .inBlock _ :: k => some (⟨f, n, τ, k, rd, D, kd, .run⟩ :: S, ar, [])
  | .inScope _ :: k => some (⟨f, n, τ, k, rd, D, kd, .run⟩ :: S, ar, [])
  | .code (.exit id) :: k => match exitTo id k with
    | some k' => some (⟨f, n, τ, k', rd, D, kd, .run⟩ :: S, ar, [])
    | none => leaveS f n τ (.code (.exit id) :: k) rd D kd S ar
  | .code .ret :: k => leaveS f n τ (.code .ret :: k) rd D kd S ar
  | [] => leaveS f n τ [] rd D kd S ar
  | .code (.cond c x y) :: k => match fl.dec with
    | false => none
    | true => match evA τ c with
      | .val (.bool true) => some (⟨f, n, τ, .code x :: k, rd, D, kd, .run⟩ :: S, ar, [])
      | .val (.bool false) => some (⟨f, n, τ, .code y :: k, rd, D, kd, .run⟩ :: S, ar, [])
      | _ => none
  | .code (.loop c) :: k => match fl.unr with
    | false => none
    | true => some (⟨f, n, τ, .code c :: .inLoop c :: k, rd, D, kd, .run⟩ :: S, ar, [])
  | .inLoop c :: k => match fl.unr with
    | false => none
    | true => some (⟨f, n, τ, .code c :: .inLoop c :: k, rd, D, kd, .run⟩ :: S, ar, [])
  | .code (.region _ ops false) :: k => some (⟨f, n, τ, .inRegion ops (List.range ops.size) :: k, rd, D, kd, .run⟩ :: S, ar, [])
  | .code (.region id ops true) :: k => match lk2 J.dr f id with
    | none => none
    | some T => match lexB I J n ar ops 999 0 (takeN T ops.toList) τ [] with
      | (τ', _, [], ob) => some (⟨f, n, τ', .inRegion ops (List.range' T (ops.size - T)) :: k, rd, D, kd, .run⟩ :: S, ar, (true, drawB ops T) :: ob)
      | _ => none
  | .inRegion _ [] :: k => some (⟨f, n, τ, k, rd, D, kd, .run⟩ :: S, ar, [])
  | .inRegion ops (i :: rest) :: k => match nth ops.toList i with
    | some o => opS1 I J fl f n τ (.inRegion ops (i :: rest) :: k) rest ops k rd D kd S ar o
    | none => none
  | .code (.rangeFunc fo ps asg bd) :: k => match rd with
    | some _ => none
    | none => match evA τ fo with
      | .fn (.func g) caps => match memN g fl.inl with
        | false => none
        | true => match snocN ar (.dfr true) with
          | none => none
          | some (ar1, ida) => match snocN ar1 (.loop .ready none f n τ ps asg bd) with
            | none => none
            | some (ar', idl) => match pushB J g (.yld idl :: caps) .normal with
              | none => none
              | some G => some (G :: ⟨f, n, τ, .inRangeFunc idl :: k, none, .yld ida :: D, kd, .run⟩ :: S, ar', [])
      | _ => none
  | .beginRound :: k => match rd with
    | none => none
    | some id => match nth ar id with
      | some (.loop .ready pd f2 n2 τ2 ps asg bd) => match setN ar id (.loop .busy pd f2 n2 τ2 ps asg bd) with
        | some ar' => some (⟨f, n, τ, k, some id, D, kd, .run⟩ :: S, ar', [])
        | none => none
      | _ => none
  | .endRangeFunc id :: k => match nth ar id with
    | some (.loop st pd f2 n2 τ2 ps asg bd) => match st with
      | .busy => none
      | st => match setN ar id (.loop .exhausted pd f2 n2 τ2 ps asg bd) with
        | some ar' => some (⟨f, n, τ, pdK pd k, rd, D, kd, .run⟩ :: S, ar', [])
        | none => none
    | _ => none
  | _ => none

def stepS (I : TI) (J : TJ) (fl : Fl) : List AF → List AO → Option (List AF × List AO × Ob)
  | [], _ => none
  | ⟨f, n, τ, todo, rd, D, kd, .run⟩ :: S, ar => runStep I J fl f n τ rd D kd S ar todo
  | ⟨f, n, τ, todo, rd, D, kd, .returning⟩ :: S, ar => unwindS I J fl f n τ todo rd D kd .returning S ar
  | ⟨f, n, τ, todo, rd, D, kd, .panicking ch⟩ :: S, ar => unwindS I J fl f n τ todo rd D kd (.panicking ch) S ar

section
variable {P : Program} {f0 : FuncId} {C : Cx} {S S' : List AF} {ar ar' ar2 : List AO} {Q : Out → List AO → Prop} {ops : Array Oper}
variable {f n : Nat} {τ τ' : Nat → AV} {rd : Option Nat} {D : List AV} {kd : CallKind} {k : List Item} {I : TI} {J : TJ} {fl : Fl}

theorem runS11 {A A' : AF} (h : SimT P C [A] ar [A'] ar') (hr : RunS P f0 C (A' :: S) ar' Q) : RunS P f0 C (A :: S) ar Q := runS_sim (T := []) (T' := []) h hr
theorem runS12 {A A' B' : AF} (h : SimT P C [A] ar [A', B'] ar') (hr : RunS P f0 C (A' :: B' :: S) ar' Q) : RunS P f0 C (A :: S) ar Q := runS_sim (T := []) (T' := [B']) h hr
theorem runS21 {A B A' : AF} (h : SimT P C [A, B] ar [A'] ar') (hr : RunS P f0 C (A' :: S) ar' Q) : RunS P f0 C (A :: B :: S) ar Q := runS_sim (T := [B]) (T' := []) h hr
theorem runS22 {A B A' B' : AF} (h : SimT P C [A, B] ar [A', B'] ar') (hr : RunS P f0 C (A' :: B' :: S) ar' Q) : RunS P f0 C (A :: B :: S) ar Q := runS_sim (T := [B]) (T' := [B']) h hr

theorem pushB_spec [hJ : Inf2 P J] {g : Nat} {as : List AV} {kd : CallKind} {G : AF} (h : pushB J g as kd = some G) :
    ∃ gn c, P.funcs[g]? = some gn ∧ gn.body = some c ∧ (gn.name == "runtime.NumGoroutine") = false ∧ Nat.ble as.length gn.ntmps = true ∧ G = ⟨g, gn.ntmps, argsT as, [.code c], none, [], kd, .run⟩ := by
  unfold pushB at h
  split at h
  · cases h
  · rename_i gn hg
    obtain ⟨h1, h2, h3⟩ := hJ.fns.mem _ (lk_mem hg)
    split at h
    · cases h
    · rename_i c hc
      split at h
      · rename_i hle
        cases h
        exact ⟨gn, c, h1, hc, h3, hle, rfl⟩
      · cases h

theorem dst_blt {o : Oper} (h : dstOK n o.dst = true) : ∀ d, o.dst = some d → Nat.blt d n = true := fun d e => by rw [e] at h; exact h

theorem callS_ok [hJ : Inf2 P J] {i : Nat} {rest : List Nat} {o : Oper} {ob : Ob} (ho : ops[i]? = some o) (hg : o.guard = none) (h : callS J fl f n τ (.inRegion ops (i :: rest) :: k) rest ops k rd D kd S ar o = some (S', ar', ob)) (hr : RunS P f0 C S' ar' Q) :
    RunS P f0 C (⟨f, n, τ, .inRegion ops (i :: rest) :: k, rd, D, kd, .run⟩ :: S) ar Q := by
  unfold callS at h
  split at h
  · rename_i fo args ts hop
    split at h
    · rename_i g caps hfo
      split at h
      · cases h
      · split at h
        · cases h
        · rename_i G hG
          cases h
          obtain ⟨gn, c, e1, e2, e3, e4, rfl⟩ := pushB_spec (P := P) hG
          rw [app_eq, evAs_eq] at e4 hr
          exact runS12 (sim_call ho hg hop hfo e1 e2 e3 rfl e4) hr
    · rename_i id hfo
      split at h
      · rename_i st pd f2 n2 τ2 ps asg bd hl
        split at h
        · cases h
        · rename_i hps
          split at h
          · cases h
          · rename_i hlt
            cases h
            rw [evAs_eq] at hps hr
            exact runS12 (sim_yield ho hg hop hfo hl rfl hps hlt) hr
      · cases h
    · cases h
  · rename_i args ts hop
    split at h
    · cases h
    · split at h
      · split at h
        · cases h
        · rename_i hd
          split at h
          · split at h
            · rename_i x hx
              cases h
              exact runS22 (sim_recover ho hg hop hx hd) hr
            · cases h
          · cases h
            exact runS22 (sim_recoverNil ho hg hop hd) hr
          · cases h
      · cases h
  · rename_i fo args ts hop
    split at h
    · cases h
    · split at h
      · cases h
      · rename_i hd
        split at h
        · rename_i g caps hfo
          cases h
          rw [app_eq, evAs_eq] at hr
          exact runS11 (sim_defer ho hg hop hfo rfl hd) hr
        · cases h
  · rename_i y hop
    split at h
    · rename_i t x hy
      split at h
      · rename_i v hv
        cases h
        exact runS11 (sim_panic ho hg hop hy hv) hr
      · cases h
    · cases h
  · cases h

theorem opS1_ok [hI : Inf P I] [hJ : Inf2 P J] {i : Nat} {rest : List Nat} {o : Oper} {ob : Ob} (ho : ops[i]? = some o) (h : opS1 I J fl f n τ (.inRegion ops (i :: rest) :: k) rest ops k rd D kd S ar o = some (S', ar', ob)) (hob : Obs ob) (hr : RunS P f0 C S' ar' Q) :
    RunS P f0 C (⟨f, n, τ, .inRegion ops (i :: rest) :: k, rd, D, kd, .run⟩ :: S) ar Q := by
  unfold opS1 at h
  split at h
  · rename_i hg
    split at h
    · rename_i x ob' hx
      split at h
      · rename_i hd
        cases h
        exact runS11 (sim_op ho hg (dst_blt hd) (execQ_ok hx hob)) hr
      · cases h
    · split at h
      · rename_i x ar1 ob' hx
        split at h
        · rename_i hd
          cases h
          exact runS11 (sim_op ho hg (dst_blt hd) (execM_ok hx hob)) hr
        · cases h
      · exact callS_ok ho hg h hr
  · rename_i j want hg
    split at h
    · cases h
    · rename_i oj hoj
      have hoj' : ops[j]? = some oj := by rw [nth_eq] at hoj; simpa using hoj
      split at h
      · cases h
      · rename_i dj hdj
        split at h
        · rename_i d hdjn hd
          split at h
          · cases h
          · rename_i hdn
            split at h
            · rename_i b hb
              split at h
              · rename_i x ob' hx
                cases h
                rw [app_eq] at hob
                obtain ⟨o1, o2⟩ := hob.app
                exact runS11 (sim_opV (oc := none) (b := b) ho hg (.v hoj' hdj hdjn hb) hd hdn (goks_of o1) (fun hc => execQ_ok hx (cnd_spec o2 hc))) hr
              · cases h
            · rename_i c b hb
              split at h
              · rename_i x ob' hx
                cases h
                rw [app_eq] at hob
                obtain ⟨o1, o2⟩ := hob.app
                exact runS11 (sim_opV (oc := some c) (b := b) ho hg (.o hoj' hdj hdjn hb) hd hdn (goks_of o1) (fun hc => execQ_ok hx (cnd_spec o2 hc))) hr
              · cases h
            · cases h
        · cases h

theorem leaveS_ok {todo : List Item} {ob : Ob} (h : leaveS f n τ todo rd D kd S ar = some (S', ar', ob)) (hr : RunS P f0 C S' ar' Q) : RunS P f0 C (⟨f, n, τ, todo, rd, D, kd, .run⟩ :: S) ar Q := by
  unfold leaveS at h
  split at h
  · split at h
    · cases h; exact runS11 (sim_ret (.inl rfl)) hr
    · cases h; exact runS11 (sim_ret (.inr ⟨_, rfl⟩)) hr
    · cases h
  · rename_i id
    split at h
    · split at h
      · cases h
      · split at h
        · cases h
        · rename_i jump hj
          split at h
          · rename_i st pd f2 n2 τ2 ps asg bd hl
            split at h
            · cases h
            · rename_i ar1 har
              split at h
              · cases h
              · rename_i τB2 tB2 d hfin
                split at h
                · rename_i hd
                  cases h
                  refine runS21 (sim_endRound hl hj ?_ ?_ hd) hr
                  · rw [← har]; cases jump <;> rfl
                  · rw [← hfin]; cases jump <;> rfl
                · cases h
          · cases h
    · cases h

theorem unwindS_ok [hI : Inf P I] [hJ : Inf2 P J] {todo : List Item} {md : FrameMode} {ob : Ob} (hm : notRun md = true) (h : unwindS I J fl f n τ todo rd D kd md S ar = some (S', ar', ob)) (hr : RunS P f0 C S' ar' Q) : RunS P f0 C (⟨f, n, τ, todo, rd, D, kd, md⟩ :: S) ar Q := by
  unfold unwindS at h
  split at h
  · split at h
    · rename_i hl
      split at h
      · rename_i ar1 har
        cases h
        exact runS11 (sim_unCol hm hl har) hr
      · cases h
    · cases h
  · split at h
    · cases h
    · split at h
      · cases h
      · rename_i G hG
        cases h
        obtain ⟨gn, c, e1, e2, e3, e4, rfl⟩ := pushB_spec (P := P) hG
        exact runS12 (sim_unFn hm e1 e2 e3 e4) hr
  · split at h
    · cases h
    · split at h
      · cases h
      · rename_i fn hfn
        obtain ⟨h1, h2, h3⟩ := hJ.fns.mem _ (lk_mem hfn)
        split at h
        · cases h
        · cases h; exact runS21 (sim_backP h1) hr
        · split at h
          · cases h
          · rename_i xs hxs
            split at h
            · split at h
              · cases h
              · rename_i τB2 tB2 d hfin
                split at h
                · rename_i hd
                  cases h
                  exact runS21 (sim_back h1 (resX_ok _ _ hxs) hfin hd) hr
                · cases h
            · split at h
              · rename_i mB2 hmB
                cases h
                exact runS21 (sim_backD h1 (resX_ok _ _ hxs) hmB) hr
              · cases h
            · cases h
  · cases h

theorem runStep_ok [hI : Inf P I] [hJ : Inf2 P J] {todo : List Item} {ob : Ob} (h : runStep I J fl f n τ rd D kd S ar todo = some (S', ar', ob)) (hob : Obs ob) (hr : RunS P f0 C S' ar' Q) : RunS P f0 C (⟨f, n, τ, todo, rd, D, kd, .run⟩ :: S) ar Q := by
  unfold runStep at h
  split at h
  · cases h; exact runS11 sim_seq hr
  · cases h; exact runS11 sim_block hr
  · cases h; exact runS11 sim_scope hr
  · cases h; exact runS11 sim_skip hr
  · cases h; exact runS11 sim_label hr
  · cases h; exact runS11 sim_inBlock hr
  · cases h; exact runS11 sim_inScope hr
  · split at h
    · rename_i k' hk; cases h; exact runS11 (sim_exit hk) hr
    · exact leaveS_ok h hr
  · exact leaveS_ok h hr
  · exact leaveS_ok h hr
  · split at h
    · cases h
    · split at h
      · rename_i hc; cases h; exact runS11 (sim_cond hc) hr
      · rename_i hc; cases h; exact runS11 (sim_cond hc) hr
      · cases h
  · split at h
    · cases h
    · cases h; exact runS11 sim_loop hr
  · split at h
    · cases h
    · cases h; exact runS11 sim_inLoop hr
  · cases h; exact runS11 sim_region hr
  · rename_i id ops k
    split at h
    · cases h
    · rename_i T hT
      split at h
      · rename_i τ1 i1 ob1 hlex
        cases h
        have hd : drawB ops T = true := hob (true, drawB ops T) (by simp) rfl
        have hob1 : Obs ob1 := fun p hp => hob p (List.mem_cons_of_mem _ hp)
        rw [takeN_eq] at hlex
        refine runS11 (sim_draw T hJ.draw hd (lexj_x (I := I) (J := J) 999 (i := 0) (l := ops.toList.take T) ?_ hlex hob1 lexj_nil)) hr
        rw [List.drop_zero, List.length_take, List.take_eq_take_iff]
        simp
      · cases h
  · cases h; exact runS11 sim_regionEnd hr
  · rename_i ops i rest k
    split at h
    · rename_i o ho
      exact opS1_ok (by rw [nth_eq] at ho; simpa using ho) h hob hr
    · cases h
  · split at h
    · cases h
    · split at h
      · rename_i g caps hfo
        split at h
        · cases h
        · split at h
          · cases h
          · rename_i ar1 ida h1
            split at h
            · cases h
            · rename_i ar2 idl h2
              split at h
              · cases h
              · rename_i G hG
                cases h
                obtain ⟨gn, c, e1, e2, e3, e4, rfl⟩ := pushB_spec (P := P) hG
                exact runS12 (sim_range hfo e1 e2 e3 h1 h2 e4) hr
      · cases h
  · split at h
    · cases h
    · split at h
      · rename_i hl
        split at h
        · rename_i har
          cases h
          exact runS11 (sim_beginRound hl har) hr
        · cases h
      · cases h
  · split at h
    · rename_i st pd f2 n2 τ2 ps asg bd hl
      split at h
      · cases h
      · rename_i hst
        split at h
        · rename_i har
          cases h
          exact runS11 (sim_endRange hl (by cases st <;> first | rfl | exact absurd rfl hst) har) hr
        · cases h
    · cases h
  · cases h

theorem stepS_ok [hI : Inf P I] [hJ : Inf2 P J] {ob : Ob} (h : stepS I J fl S ar = some (S', ar', ob)) (hob : Obs ob) (hr : RunS P f0 C S' ar' Q) : RunS P f0 C S ar Q := by
  unfold stepS at h
  split at h
  · cases h
  · exact runStep_ok h hob hr
  · exact unwindS_ok rfl h hr
  · exact unwindS_ok rfl h hr

def iterS (I : TI) (J : TJ) (fl : Fl) : Nat → List AF → List AO → Ob → List AF × List AO × Ob
  | 0, S, ar, ob => (S, ar, ob)
  | m + 1, S, ar, ob => match stepS I J fl S ar with
    | none => (S, ar, ob)
    | some (S', ar', ob') => iterS I J fl m S' ar' (app ob' ob)

theorem iterS_ok [hI : Inf P I] [hJ : Inf2 P J] : ∀ (m : Nat) (S : List AF) (ar : List AO) (ob : Ob), Obs (iterS I J fl m S ar ob).2.2 → RunS P f0 C (iterS I J fl m S ar ob).1 (iterS I J fl m S ar ob).2.1 Q → Obs ob ∧ RunS P f0 C S ar Q
  | 0, S, ar, ob, ho, hr => ⟨ho, hr⟩
  | m + 1, S, ar, ob, ho, hr => by
    simp only [iterS] at ho hr
    cases hs : stepS I J fl S ar with
    | none => simp only [hs] at ho hr; exact ⟨ho, hr⟩
    | some c =>
      obtain ⟨S1, ar1, ob1⟩ := c
      simp only [hs] at ho hr
      obtain ⟨h1, h2⟩ := iterS_ok m S1 ar1 (app ob1 ob) ho hr
      rw [app_eq] at h1
      exact ⟨h1.app.2, stepS_ok hs h1.app.1 h2⟩

/-- As far as the machine goes by itself. -/
theorem runS_x [hI : Inf P I] [hJ : Inf2 P J] (fl : Fl) (m : Nat) {ob : Ob} (h : iterS I J fl m S ar [] = (S', ar', ob)) (ho : Obs ob) (hr : RunS P f0 C S' ar' Q) : RunS P f0 C S ar Q :=
  (iterS_ok (P := P) (f0 := f0) (C := C) (Q := Q) (fl := fl) m S ar [] (by rw [h]; exact ho) (by rw [h]; exact hr)).2

theorem obs_draw {ops : Array Oper} {T : Nat} {l : Ob} (hd : drawB ops T = true) (h : Obs l) : Obs ((true, drawB ops T) :: l) := obs_by (fun _ => hd) h

/-! ### Where walks begin and end -/
theorem callS_body {fn : Func} {c : Code} {args : List AV} [hf : Fun P f fn c] (hn : fn.ntmps = n) (hargs : Nat.ble args.length n = true)
    (h : ∀ w ρ X, RunS P f (cx w ρ ar X) [⟨f, n, argsT args, [.code c], none, [], .normal, .run⟩] ar Q) : CallT P f args ar Q := by
  intro w ρ X vs hR hl hv cs
  subst hn
  obtain ⟨e, w', fr, s, h1, h2, h3⟩ := h w ρ X [Frame.enter P f vs .normal] cs w ρ (.cons (frR_enter (P := P) hf.h hf.b hl hargs hv .normal) .nil) hR
  refine ⟨e, w', fr, h3, ?_, h1, h2⟩
  obtain ⟨out, ar1, ρ1, _, _, ho⟩ := h3
  cases e with
  | returned v => exact s
  | panicked chain => exact s
  | outgrown => cases out <;> exact ho.elim

/-- The lowest frame returns; the first m of one's own objects stay. -/
theorem runS_ret [hI : Inf P I] (m : Nat) {fn : Func} {c : Code} [hf : Fun P f fn c] {xs : List AV} {t : List Item} (hr : resX I τ ar fn.results.toList = some xs) (hm : C.ar0.length ≤ m) (ht : takeA m ar = some ar') (hk : Kept m ar') (hu : (outA xs).under m = true) (hQ : Q (.ret (outA xs)) ar') (hD : C.D = [] := by rfl) :
    RunS P f C [⟨f, n, τ, t, rd, [], .normal, .returning⟩] ar Q := by
  intro fs cs w ρ hfs hR
  obtain ⟨fr, m', rfl, hfr, hn⟩ := l2_cons hfs
  cases hn
  obtain ⟨v, hv, hx⟩ := results_run (P := P) hR hfr.slots (resX_ok _ _ hr)
  obtain ⟨r1, r2⟩ := rel_take hR hm ht hk (by rw [hD]; rfl)
  have hfn : fr.fn = f := hfr.fn
  exact ⟨.returned v, w, fr, .refl _ _, hfn, ⟨hfr.mode, l2_nil hfr.defs, hfr.kind, fn, by rw [hfn]; exact hf.h, hv⟩, .ret (outA xs), ar', ρ.take m, hQ, r1, hx.take r2 hu⟩

/-- The lowest frame panics. -/
theorem runS_pan (m : Nat) {fn : Func} {c : Code} [hf : Fun P f fn c] {t : List Item} {v : Value} {x : AV} (hx : toA v = some x) (hm : C.ar0.length ≤ m) (ht : takeA m ar = some ar') (hk : Kept m ar') (hQ : Q (.pan x) ar') (hD : C.D = [] := by rfl) :
    RunS P f C [⟨f, n, τ, t, rd, [], kd, .panicking [{ v, recovered := false, goexit := false }]⟩] ar Q := by
  intro fs cs w ρ hfs hR
  obtain ⟨fr, m', rfl, hfr, hn⟩ := l2_cons hfs
  cases hn
  obtain ⟨r1, r2⟩ := rel_take hR hm ht hk (by rw [hD]; rfl)
  have hfn : fr.fn = f := hfr.fn
  exact ⟨.panicked _, w, fr, .refl _ _, hfn, ⟨hfr.mode, l2_nil hfr.defs, fn, by rw [hfn]; exact hf.h⟩, .pan x, ar', ρ.take m, hQ, r1, v, rfl, toA_ok hx⟩

theorem runS_cond {c : Operand} {x y : Code} {t : Bool} (hc : evA τ c = .val (.bool t)) (h1 : t = true → RunS P f0 C (⟨f, n, τ, .code x :: k, rd, D, kd, .run⟩ :: S) ar Q) (h2 : t = false → RunS P f0 C (⟨f, n, τ, .code y :: k, rd, D, kd, .run⟩ :: S) ar Q) :
    RunS P f0 C (⟨f, n, τ, .code (.cond c x y) :: k, rd, D, kd, .run⟩ :: S) ar Q := by
  cases t with
  | true => exact runS11 (sim_cond hc) (h1 rfl)
  | false => exact runS11 (sim_cond hc) (h2 rfl)

/-- A loop: what its head knows, and what goes down. -/
theorem runS_while {α : Type} (R : α → (Nat → AV) → List AO → Prop) (μ : α → Nat) {c : Code} (x0 : α) (h0 : R x0 τ ar)
    (round : ∀ x τ' ar', R x τ' ar' → (∀ y τ2 ar2, μ y < μ x → R y τ2 ar2 → RunS P f0 C (⟨f, n, τ2, .inLoop c :: k, rd, D, kd, .run⟩ :: S) ar2 Q) → RunS P f0 C (⟨f, n, τ', .code c :: .inLoop c :: k, rd, D, kd, .run⟩ :: S) ar' Q) :
    RunS P f0 C (⟨f, n, τ, .code (.loop c) :: k, rd, D, kd, .run⟩ :: S) ar Q := by
  have key : ∀ m x τ' ar', μ x = m → R x τ' ar' → RunS P f0 C (⟨f, n, τ', .code c :: .inLoop c :: k, rd, D, kd, .run⟩ :: S) ar' Q := by
    intro m
    induction m using Nat.strongRecOn with
    | _ m ih =>
      intro x τ' ar' hm hS
      exact round x τ' ar' hS fun y τ2 ar2 hlt hS2 => runS11 sim_inLoop (ih (μ y) (by omega) y τ2 ar2 rfl hS2)
  exact runS11 sim_loop (key _ x0 τ ar rfl h0)

/-! ### Told in another way -/
theorem runS_weak (h : ∀ (fs : List Frame) (w : World) (ρ : List Loc), L2 (FrR w (Ow C ρ ar) ρ) S fs → RelA C ρ ar w → ∃ ρ', L2 (FrR w (Ow C ρ' ar') ρ') S' fs ∧ RelA C ρ' ar' w) (hr : RunS P f0 C S' ar' Q) : RunS P f0 C S ar Q :=
  fun fs cs w ρ h1 h2 => by
    obtain ⟨ρ', a, b⟩ := h fs w ρ h1 h2
    exact hr fs cs w ρ' a b

theorem runS_says (t : Nat) {x y : AV} {tt : List Item} {md : FrameMode} (hx : τ t = x) (hs : Says x y) (hr : RunS P f0 C (⟨f, n, upd τ t y, tt, rd, D, kd, md⟩ :: S) ar Q) : RunS P f0 C (⟨f, n, τ, tt, rd, D, kd, md⟩ :: S) ar Q :=
  runS_weak (fun fs w ρ h1 h2 => by
    obtain ⟨fr, m, rfl, hf, hn⟩ := l2_cons h1
    refine ⟨ρ, .cons ⟨hf.fn, hf.size, fun j => ?_, hf.todo, hf.rd, hf.defs, hf.kind, hf.mode⟩ hn, h2⟩
    show RV _ _ _ (upd τ t y j) _
    rw [upd_eq]
    split
    · rename_i hj
      subst hj
      exact hs _ _ _ _ (hx ▸ hf.slots _)
    · exact hf.slots j) hr

theorem runS_name (id : Nat) {o : AO} (hob : nth ar id = some o) {arf : AO → List AO} (har : ∀ L, setN ar id L = some (arf L)) (h : ∀ L, L = o → RunS P f0 C S (arf L) Q) : RunS P f0 C S ar Q := by
  have h1 := har o
  obtain ⟨hl, h2⟩ := setN_spec _ _ _ _ h1
  rw [nth_eq] at hob
  have : ar.set id o = ar := by
    obtain ⟨h3, h4⟩ := List.getElem?_eq_some_iff.1 hob
    rw [← h4]
    exact List.set_getElem_self h3
  rw [this] at h2
  rw [← h2]
  exact h o rfl

/-- A frame that speaks of no object from m on. -/
def itemsU (m : Nat) : List Item → Bool
  | [] => true
  | .inRangeFunc i :: k => match Nat.blt i m with
    | true => itemsU m k
    | false => false
  | .endRangeFunc i :: k => match Nat.blt i m with
    | true => itemsU m k
    | false => false
  | _ :: k => itemsU m k
def rdU (m : Nat) : Option Nat → Bool
  | none => true
  | some i => Nat.blt i m
theorem RefR.take {ρ : List Loc} {i l m : Nat} (h : RefR ρ i l) (hi : Nat.blt i m = true) : RefR (ρ.take m) i l := by
  obtain ⟨L, h1, h2⟩ := h
  rw [Nat.blt_eq] at hi
  exact ⟨L, by rw [List.getElem?_take, if_pos hi]; exact h1, h2⟩
theorem items_take {ρ : List Loc} {m : Nat} {k k' : List Item} (h : L2 (ItemR ρ) k k') (hu : itemsU m k = true) : L2 (ItemR (ρ.take m)) k k' := by
  induction h with
  | nil => exact .nil
  | cons h1 h2 ih =>
    cases h1 with
    | inRF hr =>
      simp only [itemsU] at hu
      split at hu
      · rename_i hb; exact .cons (.inRF (hr.take hb)) (ih hu)
      · cases hu
    | endRF hr =>
      simp only [itemsU] at hu
      split at hu
      · rename_i hb; exact .cons (.endRF (hr.take hb)) (ih hu)
      · cases hu
    | code => exact .cons .code (ih (by simpa [itemsU] using hu))
    | inBlock => exact .cons .inBlock (ih (by simpa [itemsU] using hu))
    | inLoop => exact .cons .inLoop (ih (by simpa [itemsU] using hu))
    | inScope => exact .cons .inScope (ih (by simpa [itemsU] using hu))
    | inRegion => exact .cons .inRegion (ih (by simpa [itemsU] using hu))
    | beginRound => exact .cons .beginRound (ih (by simpa [itemsU] using hu))
theorem rd_take {ρ : List Loc} {m : Nat} {x y : Option Nat} (h : RdR ρ x y) (hu : rdU m x = true) : RdR (ρ.take m) x y := by
  cases h with
  | none => exact .none
  | some h => exact .some (h.take hu)
theorem defs_take {w : World} {O O' : Nat → Prop} (hO : ∀ b, O' b → O b) {ρ : List Loc} {m : Nat} {l : List AV} {ds : List Deferred} (h : L2 (DR w O ρ) l ds) (hu : AV.unders m l = true) : L2 (DR w O' (ρ.take m)) l ds := by
  induction h with
  | nil => exact .nil
  | @cons a b l ds h1 h2 ih =>
    simp only [AV.unders] at hu
    cases ha : a.under m with
    | false => simp [ha] at hu
    | true =>
      simp only [ha] at hu
      refine .cons ?_ (ih hu)
      cases h1 with
      | fn e1 e2 => exact .fn e1 fun i x v p q => (e2 i x v p q).take hO (unders_get (by simpa [AV.under] using ha) p)
      | col hr => exact .col (hr.take (by simpa [AV.under] using ha))

/-- Frames that speak of no object from m on. -/
inductive FKept (m : Nat) : List AF → Prop
  | nil : FKept m []
  | cons {A S} : itemsU m A.todo = true → rdU m A.rd = true → AV.unders m A.D = true → (∀ t, (A.τ t).under m = true) → FKept m S → FKept m (A :: S)
theorem frames_take {w : World} {O O' : Nat → Prop} (hO : ∀ b, O' b → O b) {ρ : List Loc} {m : Nat} {fs : List Frame} (h : L2 (FrR w O ρ) S fs) (hk : FKept m S) : L2 (FrR w O' (ρ.take m)) S fs := by
  induction h with
  | nil => exact .nil
  | @cons A fr S fs h1 h2 ih =>
    cases hk with
    | cons k1 k2 k3 k4 k5 => exact .cons ⟨h1.fn, h1.size, h1.slots.kept hO k4, items_take h1.todo k1, rd_take h1.rd k2, defs_take hO h1.defs k3, h1.kind, h1.mode⟩ (ih k5)

/-- What stays of the objects: the first m; the upper frame forgets the others. -/
theorem runS_drop (m : Nat) {tt : List Item} {md : FrameMode} (hm : C.ar0.length ≤ m) (ht : takeA m ar = some ar') (hk : Kept m ar') (h1 : itemsU m tt = true) (h2 : rdU m rd = true) (h3 : AV.unders m D = true) (hS : FKept m S)
    (hr : RunS P f0 C (⟨f, n, scrub m τ, tt, rd, D, kd, md⟩ :: S) ar' Q) (hD : C.D = [] := by rfl) : RunS P f0 C (⟨f, n, τ, tt, rd, D, kd, md⟩ :: S) ar Q :=
  runS_weak (fun fs w ρ g1 g2 => by
    obtain ⟨r1, r2⟩ := rel_take g2 hm ht hk (by rw [hD]; rfl)
    obtain ⟨fr, m', rfl, hf, hn⟩ := l2_cons g1
    exact ⟨_, .cons ⟨hf.fn, hf.size, hf.slots.scrubbed r2 m, items_take hf.todo h1, rd_take hf.rd h2, defs_take r2 hf.defs h3, hf.kind, hf.mode⟩ (frames_take r2 hn hS), r1⟩) hr

/-- Frames below and loops' records forget objects from m on. -/
def scrubFs (m : Nat) : List AF → List AF
  | [] => []
  | A :: S => ⟨A.f, A.n, scrub m A.τ, A.todo, A.rd, A.D, A.kind, A.mode⟩ :: scrubFs m S
theorem scrub_less {w : World} {O : Nat → Prop} {ρ : List Loc} {tmps : Array Value} (m : Nat) (h : Slots w O ρ τ tmps) : Slots w O ρ (scrub m τ) tmps := fun t => by
  unfold scrub
  split
  · exact h t
  · exact .bad
theorem runS_forget (m : Nat) {A : AF} (hS : scrubFs m S = S') (hr : RunS P f0 C (A :: S') ar Q) : RunS P f0 C (A :: S) ar Q :=
  runS_weak (fun fs w ρ g1 g2 => by
    subst hS
    refine ⟨ρ, ?_, g2⟩
    obtain ⟨fr, m', rfl, hf, hn⟩ := l2_cons g1
    refine .cons hf ?_
    clear g1 hf hr
    induction hn with
    | nil => exact .nil
    | @cons B fb S fs h1 h2 ih => exact .cons ⟨h1.fn, h1.size, scrub_less m h1.slots, h1.todo, h1.rd, h1.defs, h1.kind, h1.mode⟩ ih) hr
theorem runS_forgetLoop (m id : Nat) {st pd f2 n2 τ2 ps asg bd} (hl : nth ar id = some (.loop st pd f2 n2 τ2 ps asg bd)) (har : setN ar id (.loop st pd f2 n2 (scrub m τ2) ps asg bd) = some ar') (hr : RunS P f0 C S ar' Q) : RunS P f0 C S ar Q :=
  runS_weak (fun fs w ρ h1 g5 => by
    obtain ⟨_, rfl⟩ := setN_spec _ _ _ _ har
    rw [nth_eq] at hl
    obtain ⟨L, hL⟩ : ∃ L, ρ[id]? = some L := ⟨ρ[id]'(by rw [g5.len]; exact (List.getElem?_eq_some_iff.1 hl).1), by simp⟩
    obtain ⟨q1, q2, q3⟩ := g5.put (L' := L) (o' := .loop st pd f2 n2 (scrub m τ2) ps asg bd) (w' := w) hl hL rfl (Nat.le_refl _) (fun _ _ _ => rfl) rfl rfl rfl (fun b hb => .inl hb) (Nat.le_refl _) (fun _ => rfl)
      (fun hp hc => by
        obtain ⟨a1, b, tmps, dd, a2, a3, a4, a5⟩ := (g5.obj _ _ L hl hL).mono hp hc (fun b hb => rfl)
        exact ⟨a1, b, tmps, dd, a2, a3, a4, scrub_less m a5⟩)
    exact ⟨_, h1.mono fun _ _ hf => hf.mono q2 q3, q1⟩) hr

theorem frames_mono {w w' : World} {O O' : Nat → Prop} (hp : Pres w O w' O') {ρ ρ' : List Loc} (hc : Compat ρ ρ') {fs : List Frame} (h : L2 (FrR w O ρ) S fs) : L2 (FrR w' O' ρ') S fs := h.mono fun _ _ hf => hf.mono hp hc
theorem pres_less {w : World} {O O' : Nat → Prop} (hO : ∀ b, O' b → O b) : Pres w O w O' := ⟨Nat.le_refl _, fun b _ hn => ⟨rfl, fun hn' => hn (hO b hn')⟩⟩

/-- A row of data, from now on read alone. -/
theorem runS_freeze (t : Nat) {id ver sz m : Nat} {e : TypeId} {r : Nat → List AV} {tt : List Item} {md : FrameMode} (hx : τ t = .row id ver) (hob : nth ar id = some (.row e sz ver m r)) (har : setN ar id .gone = some ar')
    (hd : ∀ i, i < m → AV.datas (r i) = true) (hr : RunS P f0 C (⟨f, n, upd τ t (.slc sz none m r), tt, rd, D, kd, md⟩ :: S) ar' Q) : RunS P f0 C (⟨f, n, τ, tt, rd, D, kd, md⟩ :: S) ar Q :=
  runS_weak (fun fs w ρ h1 h2 => by
    obtain ⟨_, rfl⟩ := setN_spec _ _ _ _ har
    rw [nth_eq] at hob
    obtain ⟨r1, r2, r3⟩ := rel_freeze h2 hob hd
    obtain ⟨fr, m, rfl, hf, hn⟩ := l2_cons h1
    have hp := pres_less (w := w) r2
    have hf' := hf.mono hp (Compat.refl _)
    refine ⟨ρ, .cons ⟨hf.fn, hf.size, fun j => ?_, hf'.todo, hf'.rd, hf'.defs, hf.kind, hf.mode⟩ (frames_mono hp (Compat.refl _) hn), r1⟩
    show RV _ _ _ (upd τ t _ j) _
    rw [upd_eq]
    split
    · rename_i hj
      subst hj
      exact r3 _ (hx ▸ hf.slots _)
    · exact hf'.slots j) hr

theorem runS_freezeRow (id : Nat) {ver sz m : Nat} {e : TypeId} {r : Nat → List AV} {tt : List Item} {md : FrameMode} (hob : nth ar id = some (.row e sz ver m r)) (har : setN ar id .gone = some ar')
    (hd : ∀ i, i < m → AV.datas (r i) = true) (hr : RunS P f0 C (⟨f, n, fun t => thawRow id ver sz m r (τ t), tt, rd, D, kd, md⟩ :: S) ar' Q) : RunS P f0 C (⟨f, n, τ, tt, rd, D, kd, md⟩ :: S) ar Q :=
  runS_weak (fun fs w ρ h1 h2 => by
    obtain ⟨_, rfl⟩ := setN_spec _ _ _ _ har
    rw [nth_eq] at hob
    obtain ⟨r1, r2, r3⟩ := rel_freeze h2 hob hd
    obtain ⟨fr, m, rfl, hf, hn⟩ := l2_cons h1
    have hp := pres_less (w := w) r2
    have hf' := hf.mono hp (Compat.refl _)
    refine ⟨ρ, .cons ⟨hf.fn, hf.size, fun j => ?_, hf'.todo, hf'.rd, hf'.defs, hf.kind, hf.mode⟩ (frames_mono hp (Compat.refl _) hn), r1⟩
    have hj := hf.slots j
    revert hj
    show RV _ _ _ (τ j) _ → RV _ _ _ (thawRow id ver sz _ r (τ j)) _
    generalize τ j = x
    intro hj
    unfold thawRow
    split
    · rename_i id' ver'
      split
      · rename_i hb
        split
        · rename_i hb2
          have e1 := Nat.eq_of_beq_eq_true hb
          have e2 := Nat.eq_of_beq_eq_true hb2
          subst e1
          subst e2
          exact r3 _ hj
        · exact hj.fewer r2
      · exact hj.fewer r2
    · exact hj.fewer r2) hr

theorem runS_freezeBox (id : Nat) {e : TypeId} {cs : List AV} {tt : List Item} {md : FrameMode} (hob : nth ar id = some (.box e cs)) (har : setN ar id .gone = some ar') (hd : AV.datas cs = true) (hr : RunS P f0 C (⟨f, n, fun t => thaw id cs (τ t), tt, rd, D, kd, md⟩ :: S) ar' Q) :
    RunS P f0 C (⟨f, n, τ, tt, rd, D, kd, md⟩ :: S) ar Q :=
  runS_weak (fun fs w ρ h1 h2 => by
    obtain ⟨_, rfl⟩ := setN_spec _ _ _ _ har
    rw [nth_eq] at hob
    obtain ⟨r1, r2, r3⟩ := rel_freezeBox h2 hob hd
    obtain ⟨fr, m, rfl, hf, hn⟩ := l2_cons h1
    have hp := pres_less (w := w) r2
    have hf' := hf.mono hp (Compat.refl _)
    refine ⟨ρ, .cons ⟨hf.fn, hf.size, fun j => ?_, hf'.todo, hf'.rd, hf'.defs, hf.kind, hf.mode⟩ (frames_mono hp (Compat.refl _) hn), r1⟩
    have hj := hf.slots j
    revert hj
    show RV _ _ _ (τ j) _ → RV _ _ _ (thaw id cs (τ j)) _
    generalize τ j = x
    intro hj
    unfold thaw
    split
    · rename_i id' ver off
      split
      · rename_i hb
        have := Nat.eq_of_beq_eq_true hb
        subst this
        cases ver with
        | zero => exact r3 _ _ hj
        | succ v => exact hj.fewer r2
      · exact hj.fewer r2
    · exact hj.fewer r2) hr
end
end Go.Iron
