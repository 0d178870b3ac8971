/- Iron: the machine that goes by itself, for several frames; how walks begin and end. -/
import Derived.Test.YtcgepjbalmppjaaGreatDoorTB
import Derived.Lib.Builder
import Derived.Lib.UnsafeStr
import Derived.Laws.Externs
namespace Go.Iron

variable [Globs]
structure Fl where
  dec : Bool
  unr : Bool
  inl : List Nat
  stop : Nat := 0
  sd : Nat := 0

def lenN {α : Type} : List α → Nat
  | [] => 0
  | _ :: l => Nat.succ (lenN l)
def stopB (fl : Fl) (todo : List Item) (S : List AF) : Bool := match fl.stop with
  | 0 => false
  | n + 1 => match Nat.beq (lenN todo) n with
    | true => Nat.beq (lenN S) fl.sd
    | false => false

def pushB (J : TJ) (g : Nat) (as : List AV) (kd : CallKind) : Option AF := match lk J.fns g with
  | none => none
  | some gn => match gn.body with
    | none => none
    | some c => match Nat.ble as.length gn.ntmps with
      | true => some ⟨g, gn.ntmps, argsT as, [.code c], none, [], kd, .run⟩
      | false => none

def callS (J : TJ) (fl : Fl) (f n : Nat) (τ : Nat → AV) (todo : List Item) (rest : List Nat) (ops : Array Oper) (k : List Item) (rd : Option Nat) (D : List AV) (kd : CallKind) (S : List AF) (ar : List AO) (o : Oper) : Option (List AF × List AO × Ob) :=
  match o.op with
  | .call { callee := .value fo, args, .. } => match evA τ fo with
    | .fn (.func g) caps => match memN g fl.inl with
      | false => none
      | true => match pushB J g (app (evAs τ args.toList) caps) .normal with
        | none => none
        | some G => some (G :: ⟨f, n, τ, todo, rd, D, kd, .run⟩ :: S, ar, [])
    | .yld id => match nth ar id with
      | some (.loop st pd f2 n2 τ2 ps asg bd) => match Nat.beq ps.toList.length (evAs τ args.toList).length with
        | false => none
        | true => match allLt n2 ps.toList with
          | false => none
          | true => some (⟨f2, n2, updL τ2 ps.toList (evAs τ args.toList), [.code asg, .beginRound, .code bd], some id, [], .normal, .run⟩ :: ⟨f, n, τ, todo, rd, D, kd, .run⟩ :: S, ar, [])
      | _ => none
    | _ => none
  | .call { callee := .builtin .recover, .. } => match rd with
    | some _ => none
    | none => match kd with
      | .deferred => match dstOK n o.dst with
        | false => none
        | true => match S with
          | ⟨fB, nB, τB, tB, rdB, DB, kB, .panicking ({ v, recovered := false, goexit := false } :: older)⟩ :: S' => match toA v with
            | some x => some (⟨f, n, updO τ o.dst x, .inRegion ops rest :: k, none, D, .deferred, .run⟩ :: ⟨fB, nB, τB, tB, rdB, DB, kB, .panicking ({ v, recovered := true, goexit := false } :: older)⟩ :: S', ar, [])
            | none => none
          | ⟨fB, nB, τB, tB, rdB, DB, kB, .returning⟩ :: S' => some (⟨f, n, updO τ o.dst (.val .nilIface), .inRegion ops rest :: k, none, D, .deferred, .run⟩ :: ⟨fB, nB, τB, tB, rdB, DB, kB, .returning⟩ :: S', ar, [])
          | _ => none
      | _ => none
  | .defer { callee := .value fo, args, .. } => match rd with
    | some _ => none
    | none => match o.dst with
      | some _ => none
      | none => match evA τ fo with
        | .fn g caps => some (⟨f, n, τ, .inRegion ops rest :: k, none, .fn g (app (evAs τ args.toList) caps) :: D, kd, .run⟩ :: S, ar, [])
        | _ => none
  | .panic y => match evA τ y with
    | .ifc t x => match clV x with
      | some v => some (⟨f, n, τ, todo, rd, D, kd, .panicking [{ v := .iface t v, recovered := false }]⟩ :: S, ar, [])
      | none => none
    | _ => none
  | _ => none

def opS1 (I : TI) (J : TJ) (fl : Fl) (f n : Nat) (τ : Nat → AV) (todo : List Item) (rest : List Nat) (ops : Array Oper) (k : List Item) (rd : Option Nat) (D : List AV) (kd : CallKind) (S : List AF) (ar : List AO) (o : Oper) : Option (List AF × List AO × Ob) :=
  match o.guard with
  | none => match execQ I J τ ar o.op with
    | some (x, ob) => match dstOK n o.dst with
      | true => some (⟨f, n, updO τ o.dst x, .inRegion ops rest :: k, rd, D, kd, .run⟩ :: S, ar, ob)
      | false => none
    | none => match execMM I J τ ar o.op with
      | some (x, ar', ob) => match dstOK n o.dst with
        | true => some (⟨f, n, updO τ o.dst x, .inRegion ops rest :: k, rd, D, kd, .run⟩ :: S, ar', ob)
        | false => none
      | none => callS J fl f n τ todo rest ops k rd D kd S ar o
  | some (j, want) => match nth ops.toList j with
    | none => none
    | some oj => match oj.dst with
      | none => none
      | some dj => match Nat.blt dj n, o.dst with
        | true, some d => match Nat.blt d n with
          | false => none
          | true => match τ dj with
            | .val (.bool b) => match execQ I J (opS (tmpsOf o.op.operands.toList) (sops o.op) τ) ar o.op with
              | some (x, ob) => some (⟨f, n, upd τ d (.opt (b == want) x), .inRegion ops rest :: k, rd, D, kd, .run⟩ :: S, ar, app (obsOf (b == want) τ (sops o.op)) (cnd (b == want) ob))
              | none => none
            | .opt c (.val (.bool b)) => match execQ I J (opS (tmpsOf o.op.operands.toList) (sops o.op) τ) ar o.op with
              | some (x, ob) => some (⟨f, n, upd τ d (.opt (c && (b == want)) x), .inRegion ops rest :: k, rd, D, kd, .run⟩ :: S, ar, app (obsOf (c && (b == want)) τ (sops o.op)) (cnd (c && (b == want)) ob))
              | none => none
            | _ => none
        | _, _ => none

def leaveS (f n : Nat) (τ : Nat → AV) (todo : List Item) (rd : Option Nat) (D : List AV) (kd : CallKind) (S : List AF) (ar : List AO) : Option (List AF × List AO × Ob) :=
  match rd with
  | none => match todo with
    | [] => some (⟨f, n, τ, [], none, D, kd, .returning⟩ :: S, ar, [])
    | .code .ret :: k => some (⟨f, n, τ, .code .ret :: k, none, D, kd, .returning⟩ :: S, ar, [])
    | _ => none
  | some id => match kd with
    | .normal => match S with
      | [] => none
      | ⟨fB, nB, τB, tB, rdB, DB, kB, mB⟩ :: S' => match roundEnd todo with
        | none => none
        | some jump => match nth ar id with
          | some (.loop st pd f2 n2 τ2 ps asg bd) => match setN ar id (.loop (match jump with | none => .ready | some _ => .done) jump f2 n2 τ2 ps asg bd) with
            | none => none
            | some ar' => match finA τB tB (.val (.bool (match jump with | none => true | some _ => false))) with
              | none => none
              | some (τB2, tB2, d) => match dstOK nB d with
                | true => some (⟨fB, nB, τB2, tB2, rdB, DB, kB, mB⟩ :: S', ar', [])
                | false => none
          | _ => none
    | _ => none

def unwindS (I : TI) (J : TJ) (fl : Fl) (f n : Nat) (τ : Nat → AV) (todo : List Item) (rd : Option Nat) (D : List AV) (kd : CallKind) (md : FrameMode) (S : List AF) (ar : List AO) : Option (List AF × List AO × Ob) :=
  match D with
  | .yld id :: D' => match nth ar id with
    | some (.dfr true) => match setN ar id (.dfr false) with
      | some ar' => some (⟨f, n, τ, todo, rd, D', kd, md⟩ :: S, ar', [])
      | none => none
    | _ => none
  | .fn (.func g) as :: D' => match memN g fl.inl with
    | false => none
    | true => match pushB J g as .deferred with
      | none => none
      | some G => some (G :: ⟨f, n, τ, todo, rd, D', kd, md⟩ :: S, ar, [])
  | [] => match S with
    | [] => none
    | ⟨fB, nB, τB, tB, rdB, DB, kB, mB⟩ :: S' => match lk J.fns f with
      | none => none
      | some fn => match md with
        | .run => none
        | .panicking ch => some (⟨fB, nB, τB, tB, rdB, DB, kB, raiseM ch mB⟩ :: S', ar, [])
        | .returning => match resX I τ ar fn.results.toList with
          | none => none
          | some xs => match kd with
            | .normal => match finA τB tB (outA xs) with
              | none => none
              | some (τB2, tB2, d) => match dstOK nB d with
                | true => some (⟨fB, nB, τB2, tB2, rdB, DB, kB, mB⟩ :: S', ar, [])
                | false => none
            | .deferred => match afterD mB with
              | some mB2 => some (⟨fB, nB, τB, tB, rdB, DB, kB, mB2⟩ :: S', ar, [])
              | none => none
            | _ => none
  | _ => none

def takeN {α : Type} : Nat → List α → List α
  | 0, _ => []
  | _ + 1, [] => []
  | m + 1, x :: l => x :: takeN m l
omit [Globs] in
theorem takeN_eq {α : Type} (m : Nat) (l : List α) : takeN m l = l.take m := by
  induction m generalizing l with
  | zero => rfl
  | succ m ih => cases l <;> simp [takeN, ih]

def lk2 (l : List (Nat × List (Nat × Nat))) (f id : Nat) : Option Nat := match lk l f with
  | some m => lk m id
  | none => none

def runStep (I : TI) (J : TJ) (fl : Fl) (f n : Nat) (τ : Nat → AV) (rd : Option Nat) (D : List AV) (kd : CallKind) (S : List AF) (ar : List AO) : List Item → Option (List AF × List AO × Ob)
  | .code (.seq x y) :: k => some (⟨f, n, τ, .code x :: .code y :: k, rd, D, kd, .run⟩ :: S, ar, [])
  | .code (.block id c) :: k => some (⟨f, n, τ, .code c :: .inBlock id :: k, rd, D, kd, .run⟩ :: S, ar, [])
  | .code (.scope c) :: k => some (⟨f, n, τ, .code c :: .inScope c :: k, rd, D, kd, .run⟩ :: S, ar, [])
  | .code .skip :: k => some (⟨f, n, τ, k, rd, D, kd, .run⟩ :: S, ar, [])
  | .code (.label _) :: k => some (⟨f, n, τ, k, rd, D, kd, .run⟩ :: S, ar, [])
  | .inBlock _ :: k => some (⟨f, n, τ, k, rd, D, kd, .run⟩ :: S, ar, [])
  | .inScope _ :: k => some (⟨f, n, τ, k, rd, D, kd, .run⟩ :: S, ar, [])
  | .code (.exit id) :: k => match exitTo id k with
    | some k' => some (⟨f, n, τ, k', rd, D, kd, .run⟩ :: S, ar, [])
    | none => leaveS f n τ (.code (.exit id) :: k) rd D kd S ar
  | .code .ret :: k => leaveS f n τ (.code .ret :: k) rd D kd S ar
  | [] => leaveS f n τ [] rd D kd S ar
  | .code (.cond c x y) :: k => match fl.dec with
    | false => none
    | true => match evA τ c with
      | .val (.bool true) => some (⟨f, n, τ, .code x :: k, rd, D, kd, .run⟩ :: S, ar, [])
      | .val (.bool false) => some (⟨f, n, τ, .code y :: k, rd, D, kd, .run⟩ :: S, ar, [])
      | _ => none
  | .code (.loop c) :: k => match fl.unr with
    | false => none
    | true => some (⟨f, n, τ, .code c :: .inLoop c :: k, rd, D, kd, .run⟩ :: S, ar, [])
  | .inLoop c :: k => match fl.unr with
    | false => none
    | true => some (⟨f, n, τ, .code c :: .inLoop c :: k, rd, D, kd, .run⟩ :: S, ar, [])
  | .code (.region _ ops false) :: k => some (⟨f, n, τ, .inRegion ops (List.range ops.size) :: k, rd, D, kd, .run⟩ :: S, ar, [])
  | .code (.region id ops true) :: k => match lk2 J.dr f id with
    | none => none
    | some T => match lexB I J n ar ops 999 0 (takeN T ops.toList) τ [] with
      | (τ', _, [], ob) => some (⟨f, n, τ', .inRegion ops (List.range' T (ops.size - T)) :: k, rd, D, kd, .run⟩ :: S, ar, (true, drawB ops T) :: ob)
      | _ => none
  | .inRegion _ [] :: k => some (⟨f, n, τ, k, rd, D, kd, .run⟩ :: S, ar, [])
  | .inRegion ops (i :: rest) :: k => match nth ops.toList i with
    | some o => opS1 I J fl f n τ (.inRegion ops (i :: rest) :: k) rest ops k rd D kd S ar o
    | none => none
  | .code (.rangeFunc fo ps asg bd) :: k => match rd with
    | some _ => none
    | none => match evA τ fo with
      | .fn (.func g) caps => match memN g fl.inl with
        | false => none
        | true => match snocN ar (.dfr true) with
          | none => none
          | some (ar1, ida) => match snocN ar1 (.loop .ready none f n τ ps asg bd) with
            | none => none
            | some (ar', idl) => match pushB J g (.yld idl :: caps) .normal with
              | none => none
              | some G => some (G :: ⟨f, n, τ, .inRangeFunc idl :: k, none, .yld ida :: D, kd, .run⟩ :: S, ar', [])
      | _ => none
  | .beginRound :: k => match rd with
    | none => none
    | some id => match nth ar id with
      | some (.loop .ready pd f2 n2 τ2 ps asg bd) => match setN ar id (.loop .busy pd f2 n2 τ2 ps asg bd) with
        | some ar' => some (⟨f, n, τ, k, some id, D, kd, .run⟩ :: S, ar', [])
        | none => none
      | _ => none
  | .endRangeFunc id :: k => match nth ar id with
    | some (.loop st pd f2 n2 τ2 ps asg bd) => match st with
      | .busy => none
      | st => match setN ar id (.loop .exhausted pd f2 n2 τ2 ps asg bd) with
        | some ar' => some (⟨f, n, τ, pdK pd k, rd, D, kd, .run⟩ :: S, ar', [])
        | none => none
    | _ => none
  | _ => none

def stepS (I : TI) (J : TJ) (fl : Fl) : List AF → List AO → Option (List AF × List AO × Ob)
  | [], _ => none
  | ⟨f, n, τ, todo, rd, D, kd, .run⟩ :: S, ar => match stopB fl todo S with
    | true => none
    | false => runStep I J fl f n τ rd D kd S ar todo
  | ⟨f, n, τ, todo, rd, D, kd, .returning⟩ :: S, ar => unwindS I J fl f n τ todo rd D kd .returning S ar
  | ⟨f, n, τ, todo, rd, D, kd, .panicking ch⟩ :: S, ar => unwindS I J fl f n τ todo rd D kd (.panicking ch) S ar

section
variable {P : Program} {f0 : FuncId} {C : Cx} {S S' : List AF} {ar ar' ar2 : List AO} {Q : Out → List AO → Prop} {ops : Array Oper}
variable {f n : Nat} {τ τ' : Nat → AV} {rd : Option Nat} {D : List AV} {kd : CallKind} {k : List Item} {I : TI} {J : TJ} {fl : Fl}

theorem runS11 {A A' : AF} (h : SimT P C [A] ar [A'] ar') (hr : RunS P f0 C (A' :: S) ar' Q) : RunS P f0 C (A :: S) ar Q := runS_sim (T := []) (T' := []) h hr
theorem runS12 {A A' B' : AF} (h : SimT P C [A] ar [A', B'] ar') (hr : RunS P f0 C (A' :: B' :: S) ar' Q) : RunS P f0 C (A :: S) ar Q := runS_sim (T := []) (T' := [B']) h hr
theorem runS21 {A B A' : AF} (h : SimT P C [A, B] ar [A'] ar') (hr : RunS P f0 C (A' :: S) ar' Q) : RunS P f0 C (A :: B :: S) ar Q := runS_sim (T := [B]) (T' := []) h hr
theorem runS22 {A B A' B' : AF} (h : SimT P C [A, B] ar [A', B'] ar') (hr : RunS P f0 C (A' :: B' :: S) ar' Q) : RunS P f0 C (A :: B :: S) ar Q := runS_sim (T := [B]) (T' := [B']) h hr

omit [Globs] in
theorem pushB_spec [hJ : Inf2 P J] {g : Nat} {as : List AV} {kd : CallKind} {G : AF} (h : pushB J g as kd = some G) :
    ∃ gn c, P.funcs[g]? = some gn ∧ gn.body = some c ∧ (gn.name == "runtime.NumGoroutine") = false ∧ Nat.ble as.length gn.ntmps = true ∧ G = ⟨g, gn.ntmps, argsT as, [.code c], none, [], kd, .run⟩ := by
  unfold pushB at h
  split at h
  · cases h
  · rename_i gn hg
    obtain ⟨h1, h2, h3⟩ := hJ.fns.mem _ (lk_mem hg)
    split at h
    · cases h
    · rename_i c hc
      split at h
      · rename_i hle
        cases h
        exact ⟨gn, c, h1, hc, h3, hle, rfl⟩
      · cases h

omit [Globs] in
theorem dst_blt {o : Oper} (h : dstOK n o.dst = true) : ∀ d, o.dst = some d → Nat.blt d n = true := fun d e => by rw [e] at h; exact h

theorem callS_ok [hJ : Inf2 P J] {i : Nat} {rest : List Nat} {o : Oper} {ob : Ob} (ho : ops[i]? = some o) (hg : o.guard = none) (h : callS J fl f n τ (.inRegion ops (i :: rest) :: k) rest ops k rd D kd S ar o = some (S', ar', ob)) (hr : RunS P f0 C S' ar' Q) :
    RunS P f0 C (⟨f, n, τ, .inRegion ops (i :: rest) :: k, rd, D, kd, .run⟩ :: S) ar Q := by
  unfold callS at h
  split at h
  · rename_i fo args ts hop
    split at h
    · rename_i g caps hfo
      split at h
      · cases h
      · split at h
        · cases h
        · rename_i G hG
          cases h
          obtain ⟨gn, c, e1, e2, e3, e4, rfl⟩ := pushB_spec (P := P) hG
          rw [app_eq, evAs_eq] at e4 hr
          exact runS12 (sim_call ho hg hop hfo e1 e2 e3 rfl e4) hr
    · rename_i id hfo
      split at h
      · rename_i st pd f2 n2 τ2 ps asg bd hl
        split at h
        · cases h
        · rename_i hps
          split at h
          · cases h
          · rename_i hlt
            cases h
            rw [evAs_eq] at hps hr
            exact runS12 (sim_yield ho hg hop hfo hl rfl hps hlt) hr
      · cases h
    · cases h
  · rename_i args ts hop
    split at h
    · cases h
    · split at h
      · split at h
        · cases h
        · rename_i hd
          split at h
          · split at h
            · rename_i x hx
              cases h
              exact runS22 (sim_recover ho hg hop hx hd) hr
            · cases h
          · cases h
            exact runS22 (sim_recoverNil ho hg hop hd) hr
          · cases h
      · cases h
  · rename_i fo args ts hop
    split at h
    · cases h
    · split at h
      · cases h
      · rename_i hd
        split at h
        · rename_i g caps hfo
          cases h
          rw [app_eq, evAs_eq] at hr
          exact runS11 (sim_defer ho hg hop hfo rfl hd) hr
        · cases h
  · rename_i y hop
    split at h
    · rename_i t x hy
      split at h
      · rename_i v hv
        cases h
        exact runS11 (sim_panic ho hg hop hy hv) hr
      · cases h
    · cases h
  · cases h

theorem opS1_ok [hI : Inf P I] [hJ : Inf2 P J] {i : Nat} {rest : List Nat} {o : Oper} {ob : Ob} (ho : ops[i]? = some o) (h : opS1 I J fl f n τ (.inRegion ops (i :: rest) :: k) rest ops k rd D kd S ar o = some (S', ar', ob)) (hob : Obs ob) (hr : RunS P f0 C S' ar' Q) :
    RunS P f0 C (⟨f, n, τ, .inRegion ops (i :: rest) :: k, rd, D, kd, .run⟩ :: S) ar Q := by
  unfold opS1 at h
  split at h
  · rename_i hg
    split at h
    · rename_i x ob' hx
      split at h
      · rename_i hd
        cases h
        exact runS11 (sim_op ho hg (dst_blt hd) (execQ_ok hx hob)) hr
      · cases h
    · split at h
      · rename_i x ar1 ob' hx
        split at h
        · rename_i hd
          cases h
          exact runS11 (sim_op ho hg (dst_blt hd) (execMM_ok hx hob)) hr
        · cases h
      · exact callS_ok ho hg h hr
  · rename_i j want hg
    split at h
    · cases h
    · rename_i oj hoj
      have hoj' : ops[j]? = some oj := by rw [nth_eq] at hoj; simpa using hoj
      split at h
      · cases h
      · rename_i dj hdj
        split at h
        · rename_i d hdjn hd
          split at h
          · cases h
          · rename_i hdn
            split at h
            · rename_i b hb
              split at h
              · rename_i x ob' hx
                cases h
                rw [app_eq] at hob
                obtain ⟨o1, o2⟩ := hob.app
                exact runS11 (sim_opV (oc := none) (b := b) ho hg (.v hoj' hdj hdjn hb) hd hdn (goks_of o1) (fun hc => execQ_ok hx (cnd_spec o2 hc))) hr
              · cases h
            · rename_i c b hb
              split at h
              · rename_i x ob' hx
                cases h
                rw [app_eq] at hob
                obtain ⟨o1, o2⟩ := hob.app
                exact runS11 (sim_opV (oc := some c) (b := b) ho hg (.o hoj' hdj hdjn hb) hd hdn (goks_of o1) (fun hc => execQ_ok hx (cnd_spec o2 hc))) hr
              · cases h
            · cases h
        · cases h

theorem leaveS_ok {todo : List Item} {ob : Ob} (h : leaveS f n τ todo rd D kd S ar = some (S', ar', ob)) (hr : RunS P f0 C S' ar' Q) : RunS P f0 C (⟨f, n, τ, todo, rd, D, kd, .run⟩ :: S) ar Q := by
  unfold leaveS at h
  split at h
  · split at h
    · cases h; exact runS11 (sim_ret (.inl rfl)) hr
    · cases h; exact runS11 (sim_ret (.inr ⟨_, rfl⟩)) hr
    · cases h
  · rename_i id
    split at h
    · split at h
      · cases h
      · split at h
        · cases h
        · rename_i jump hj
          split at h
          · rename_i st pd f2 n2 τ2 ps asg bd hl
            split at h
            · cases h
            · rename_i ar1 har
              split at h
              · cases h
              · rename_i τB2 tB2 d hfin
                split at h
                · rename_i hd
                  cases h
                  refine runS21 (sim_endRound hl hj ?_ ?_ hd) hr
                  · rw [← har]; cases jump <;> rfl
                  · rw [← hfin]; cases jump <;> rfl
                · cases h
          · cases h
    · cases h

theorem unwindS_ok [hI : Inf P I] [hJ : Inf2 P J] {todo : List Item} {md : FrameMode} {ob : Ob} (hm : notRun md = true) (h : unwindS I J fl f n τ todo rd D kd md S ar = some (S', ar', ob)) (hr : RunS P f0 C S' ar' Q) : RunS P f0 C (⟨f, n, τ, todo, rd, D, kd, md⟩ :: S) ar Q := by
  unfold unwindS at h
  split at h
  · split at h
    · rename_i hl
      split at h
      · rename_i ar1 har
        cases h
        exact runS11 (sim_unCol hm hl har) hr
      · cases h
    · cases h
  · split at h
    · cases h
    · split at h
      · cases h
      · rename_i G hG
        cases h
        obtain ⟨gn, c, e1, e2, e3, e4, rfl⟩ := pushB_spec (P := P) hG
        exact runS12 (sim_unFn hm e1 e2 e3 e4) hr
  · split at h
    · cases h
    · split at h
      · cases h
      · rename_i fn hfn
        obtain ⟨h1, h2, h3⟩ := hJ.fns.mem _ (lk_mem hfn)
        split at h
        · cases h
        · cases h; exact runS21 (sim_backP h1) hr
        · split at h
          · cases h
          · rename_i xs hxs
            split at h
            · split at h
              · cases h
              · rename_i τB2 tB2 d hfin
                split at h
                · rename_i hd
                  cases h
                  exact runS21 (sim_back h1 (resX_ok _ _ hxs) hfin hd) hr
                · cases h
            · split at h
              · rename_i mB2 hmB
                cases h
                exact runS21 (sim_backD h1 (resX_ok _ _ hxs) hmB) hr
              · cases h
            · cases h
  · cases h

theorem runStep_ok [hI : Inf P I] [hJ : Inf2 P J] {todo : List Item} {ob : Ob} (h : runStep I J fl f n τ rd D kd S ar todo = some (S', ar', ob)) (hob : Obs ob) (hr : RunS P f0 C S' ar' Q) : RunS P f0 C (⟨f, n, τ, todo, rd, D, kd, .run⟩ :: S) ar Q := by
  unfold runStep at h
  split at h
  · cases h; exact runS11 sim_seq hr
  · cases h; exact runS11 sim_block hr
  · cases h; exact runS11 sim_scope hr
  · cases h; exact runS11 sim_skip hr
  · cases h; exact runS11 sim_label hr
  · cases h; exact runS11 sim_inBlock hr
  · cases h; exact runS11 sim_inScope hr
  · split at h
    · rename_i k' hk; cases h; exact runS11 (sim_exit hk) hr
    · exact leaveS_ok h hr
  · exact leaveS_ok h hr
  · exact leaveS_ok h hr
  · split at h
    · cases h
    · split at h
      · rename_i hc; cases h; exact runS11 (sim_cond hc) hr
      · rename_i hc; cases h; exact runS11 (sim_cond hc) hr
      · cases h
  · split at h
    · cases h
    · cases h; exact runS11 sim_loop hr
  · split at h
    · cases h
    · cases h; exact runS11 sim_inLoop hr
  · cases h; exact runS11 sim_region hr
  · rename_i id ops k
    split at h
    · cases h
    · rename_i T hT
      split at h
      · rename_i τ1 i1 ob1 hlex
        cases h
        have hd : drawB ops T = true := hob (true, drawB ops T) (by simp) rfl
        have hob1 : Obs ob1 := fun p hp => hob p (List.mem_cons_of_mem _ hp)
        rw [takeN_eq] at hlex
        refine runS11 (sim_draw T hJ.draw hd (lexj_x (I := I) (J := J) 999 (i := 0) (l := ops.toList.take T) ?_ hlex hob1 lexj_nil)) hr
        rw [List.drop_zero, List.length_take, List.take_eq_take_iff]
        simp
      · cases h
  · cases h; exact runS11 sim_regionEnd hr
  · rename_i ops i rest k
    split at h
    · rename_i o ho
      exact opS1_ok (by rw [nth_eq] at ho; simpa using ho) h hob hr
    · cases h
  · split at h
    · cases h
    · split at h
      · rename_i g caps hfo
        split at h
        · cases h
        · split at h
          · cases h
          · rename_i ar1 ida h1
            split at h
            · cases h
            · rename_i ar2 idl h2
              split at h
              · cases h
              · rename_i G hG
                cases h
                obtain ⟨gn, c, e1, e2, e3, e4, rfl⟩ := pushB_spec (P := P) hG
                exact runS12 (sim_range hfo e1 e2 e3 h1 h2 e4) hr
      · cases h
  · split at h
    · cases h
    · split at h
      · rename_i hl
        split at h
        · rename_i har
          cases h
          exact runS11 (sim_beginRound hl har) hr
        · cases h
      · cases h
  · split at h
    · rename_i st pd f2 n2 τ2 ps asg bd hl
      split at h
      · cases h
      · rename_i hst
        split at h
        · rename_i har
          cases h
          exact runS11 (sim_endRange hl (by cases st <;> first | rfl | exact absurd rfl hst) har) hr
        · cases h
    · cases h
  · cases h

theorem stepS_ok [hI : Inf P I] [hJ : Inf2 P J] {ob : Ob} (h : stepS I J fl S ar = some (S', ar', ob)) (hob : Obs ob) (hr : RunS P f0 C S' ar' Q) : RunS P f0 C S ar Q := by
  unfold stepS at h
  split at h
  · cases h
  · split at h
    · cases h
    · exact runStep_ok h hob hr
  · exact unwindS_ok rfl h hr
  · exact unwindS_ok rfl h hr

def iterS (I : TI) (J : TJ) (fl : Fl) : Nat → List AF → List AO → Ob → List AF × List AO × Ob
  | 0, S, ar, ob => (S, ar, ob)
  | m + 1, S, ar, ob => match stepS I J fl S ar with
    | none => (S, ar, ob)
    | some (S', ar', ob') => iterS I J fl m S' ar' (app ob' ob)

theorem iterS_ok [hI : Inf P I] [hJ : Inf2 P J] : ∀ (m : Nat) (S : List AF) (ar : List AO) (ob : Ob), Obs (iterS I J fl m S ar ob).2.2 → RunS P f0 C (iterS I J fl m S ar ob).1 (iterS I J fl m S ar ob).2.1 Q → Obs ob ∧ RunS P f0 C S ar Q
  | 0, S, ar, ob, ho, hr => ⟨ho, hr⟩
  | m + 1, S, ar, ob, ho, hr => by
    simp only [iterS] at ho hr
    cases hs : stepS I J fl S ar with
    | none => simp only [hs] at ho hr; exact ⟨ho, hr⟩
    | some c =>
      obtain ⟨S1, ar1, ob1⟩ := c
      simp only [hs] at ho hr
      obtain ⟨h1, h2⟩ := iterS_ok m S1 ar1 (app ob1 ob) ho hr
      rw [app_eq] at h1
      exact ⟨h1.app.2, stepS_ok hs h1.app.1 h2⟩

theorem runS_x [hI : Inf P I] [hJ : Inf2 P J] (fl : Fl) (m : Nat) {ob : Ob} (h : iterS I J fl m S ar [] = (S', ar', ob)) (ho : Obs ob) (hr : RunS P f0 C S' ar' Q) : RunS P f0 C S ar Q :=
  (iterS_ok (P := P) (f0 := f0) (C := C) (Q := Q) (fl := fl) m S ar [] (by rw [h]; exact ho) (by rw [h]; exact hr)).2

omit [Globs] in
theorem obs_draw {ops : Array Oper} {T : Nat} {l : Ob} (hd : drawB ops T = true) (h : Obs l) : Obs ((true, drawB ops T) :: l) := obs_by (fun _ => hd) h

/-! ### Where walks begin and end -/
theorem callS_body {fn : Func} {c : Code} {args : List AV} [hf : Fun P f fn c] (hn : fn.ntmps = n) (hargs : Nat.ble args.length n = true)
    (h : ∀ w ρ X, RunS P f (cx w ρ ar X) [⟨f, n, argsT args, [.code c], none, [], .normal, .run⟩] ar Q) : CallT P f args ar Q := by
  intro w ρ X vs hR hl hv cs
  subst hn
  obtain ⟨e, w', fr, s, h1, h2, h3⟩ := h w ρ X [Frame.enter P f vs .normal] cs w ρ (.cons (frR_enter (P := P) hf.h hf.b hl hargs hv .normal) .nil) hR
  refine ⟨e, w', fr, h3, ?_, h1, h2⟩
  obtain ⟨out, ar1, ρ1, _, _, ho⟩ := h3
  cases e with
  | returned v => exact s
  | panicked chain => exact s
  | outgrown => cases out <;> exact ho.elim

theorem runS_ret [hI : Inf P I] (m : Nat) {fn : Func} {c : Code} [hf : Fun P f fn c] {xs : List AV} {t : List Item} (hr : resX I τ ar fn.results.toList = some xs) (hm : C.ar0.length ≤ m) (ht : takeA m ar = some ar') (hk : Kept m ar') (hu : (outA xs).under m = true) (hQ : Q (.ret (outA xs)) ar') (hD : C.D = [] := by rfl) :
    RunS P f C [⟨f, n, τ, t, rd, [], .normal, .returning⟩] ar Q := by
  intro fs cs w ρ hfs hR
  obtain ⟨fr, m', rfl, hfr, hn⟩ := l2_cons hfs
  cases hn
  obtain ⟨v, hv, hx⟩ := results_run (P := P) hR hfr.slots (resX_ok _ _ hr)
  obtain ⟨r1, r2⟩ := rel_take hR hm ht hk (by rw [hD]; rfl)
  have hfn : fr.fn = f := hfr.fn
  exact ⟨.returned v, w, fr, .refl _ _, hfn, ⟨hfr.mode, l2_nil hfr.defs, hfr.kind, fn, by rw [hfn]; exact hf.h, hv⟩, .ret (outA xs), ar', ρ.take m, hQ, r1, hx.take r2 hu⟩

theorem runS_pan (m : Nat) {fn : Func} {c : Code} [hf : Fun P f fn c] {t : List Item} {v : Value} {x : AV} (hx : toA v = some x) (hm : C.ar0.length ≤ m) (ht : takeA m ar = some ar') (hk : Kept m ar') (hQ : Q (.pan x) ar') (hD : C.D = [] := by rfl) :
    RunS P f C [⟨f, n, τ, t, rd, [], kd, .panicking [{ v, recovered := false, goexit := false }]⟩] ar Q := by
  intro fs cs w ρ hfs hR
  obtain ⟨fr, m', rfl, hfr, hn⟩ := l2_cons hfs
  cases hn
  obtain ⟨r1, r2⟩ := rel_take hR hm ht hk (by rw [hD]; rfl)
  have hfn : fr.fn = f := hfr.fn
  exact ⟨.panicked _, w, fr, .refl _ _, hfn, ⟨hfr.mode, l2_nil hfr.defs, fn, by rw [hfn]; exact hf.h⟩, .pan x, ar', ρ.take m, hQ, r1, v, rfl, toA_ok hx⟩

theorem runS_cond {c : Operand} {x y : Code} {t : Bool} (hc : evA τ c = .val (.bool t)) (h1 : t = true → RunS P f0 C (⟨f, n, τ, .code x :: k, rd, D, kd, .run⟩ :: S) ar Q) (h2 : t = false → RunS P f0 C (⟨f, n, τ, .code y :: k, rd, D, kd, .run⟩ :: S) ar Q) :
    RunS P f0 C (⟨f, n, τ, .code (.cond c x y) :: k, rd, D, kd, .run⟩ :: S) ar Q := by
  cases t with
  | true => exact runS11 (sim_cond hc) (h1 rfl)
  | false => exact runS11 (sim_cond hc) (h2 rfl)

theorem runS_while {α : Type} (R : α → (Nat → AV) → List AO → Prop) (μ : α → Nat) {c : Code} (x0 : α) (h0 : R x0 τ ar)
    (round : ∀ x τ' ar', R x τ' ar' → (∀ y τ2 ar2, μ y < μ x → R y τ2 ar2 → RunS P f0 C (⟨f, n, τ2, .inLoop c :: k, rd, D, kd, .run⟩ :: S) ar2 Q) → RunS P f0 C (⟨f, n, τ', .code c :: .inLoop c :: k, rd, D, kd, .run⟩ :: S) ar' Q) :
    RunS P f0 C (⟨f, n, τ, .code (.loop c) :: k, rd, D, kd, .run⟩ :: S) ar Q := by
  have key : ∀ m x τ' ar', μ x = m → R x τ' ar' → RunS P f0 C (⟨f, n, τ', .code c :: .inLoop c :: k, rd, D, kd, .run⟩ :: S) ar' Q := by
    intro m
    induction m using Nat.strongRecOn with
    | _ m ih =>
      intro x τ' ar' hm hS
      exact round x τ' ar' hS fun y τ2 ar2 hlt hS2 => runS11 sim_inLoop (ih (μ y) (by omega) y τ2 ar2 rfl hS2)
  exact runS11 sim_loop (key _ x0 τ ar rfl h0)

/-! ### Told in another way -/
theorem runS_weak (h : ∀ (fs : List Frame) (w : World) (ρ : List Loc), L2 (FrR w (Ow C ρ ar) ρ) S fs → RelA C ρ ar w → ∃ ρ', L2 (FrR w (Ow C ρ' ar') ρ') S' fs ∧ RelA C ρ' ar' w) (hr : RunS P f0 C S' ar' Q) : RunS P f0 C S ar Q :=
  fun fs cs w ρ h1 h2 => by
    obtain ⟨ρ', a, b⟩ := h fs w ρ h1 h2
    exact hr fs cs w ρ' a b

theorem runS_says (t : Nat) {x y : AV} {tt : List Item} {md : FrameMode} (hx : τ t = x) (hs : Says x y) (hr : RunS P f0 C (⟨f, n, upd τ t y, tt, rd, D, kd, md⟩ :: S) ar Q) : RunS P f0 C (⟨f, n, τ, tt, rd, D, kd, md⟩ :: S) ar Q :=
  runS_weak (fun fs w ρ h1 h2 => by
    obtain ⟨fr, m, rfl, hf, hn⟩ := l2_cons h1
    refine ⟨ρ, .cons ⟨hf.fn, hf.size, fun j => ?_, hf.todo, hf.rd, hf.defs, hf.kind, hf.mode⟩ hn, h2⟩
    show RV _ _ _ (upd τ t y j) _
    rw [upd_eq]
    split
    · rename_i hj
      subst hj
      exact hs _ _ _ _ (hx ▸ hf.slots _)
    · exact hf.slots j) hr

theorem runS_name (id : Nat) {o : AO} (hob : nth ar id = some o) {arf : AO → List AO} (har : ∀ L, setN ar id L = some (arf L)) (h : ∀ L, L = o → RunS P f0 C S (arf L) Q) : RunS P f0 C S ar Q := by
  have h1 := har o
  obtain ⟨hl, h2⟩ := setN_spec _ _ _ _ h1
  rw [nth_eq] at hob
  have : ar.set id o = ar := by
    obtain ⟨h3, h4⟩ := List.getElem?_eq_some_iff.1 hob
    rw [← h4]
    exact List.set_getElem_self h3
  rw [this] at h2
  rw [← h2]
  exact h o rfl

def itemsU (m : Nat) : List Item → Bool
  | [] => true
  | .inRangeFunc i :: k => match Nat.blt i m with
    | true => itemsU m k
    | false => false
  | .endRangeFunc i :: k => match Nat.blt i m with
    | true => itemsU m k
    | false => false
  | _ :: k => itemsU m k
def rdU (m : Nat) : Option Nat → Bool
  | none => true
  | some i => Nat.blt i m
omit [Globs] in
theorem RefR.take {ρ : List Loc} {i l m : Nat} (h : RefR ρ i l) (hi : Nat.blt i m = true) : RefR (ρ.take m) i l := by
  obtain ⟨L, h1, h2⟩ := h
  rw [Nat.blt_eq] at hi
  exact ⟨L, by rw [List.getElem?_take, if_pos hi]; exact h1, h2⟩
omit [Globs] in
theorem items_take {ρ : List Loc} {m : Nat} {k k' : List Item} (h : L2 (ItemR ρ) k k') (hu : itemsU m k = true) : L2 (ItemR (ρ.take m)) k k' := by
  induction h with
  | nil => exact .nil
  | cons h1 h2 ih =>
    cases h1 with
    | inRF hr =>
      simp only [itemsU] at hu
      split at hu
      · rename_i hb; exact .cons (.inRF (hr.take hb)) (ih hu)
      · cases hu
    | endRF hr =>
      simp only [itemsU] at hu
      split at hu
      · rename_i hb; exact .cons (.endRF (hr.take hb)) (ih hu)
      · cases hu
    | code => exact .cons .code (ih (by simpa [itemsU] using hu))
    | inBlock => exact .cons .inBlock (ih (by simpa [itemsU] using hu))
    | inLoop => exact .cons .inLoop (ih (by simpa [itemsU] using hu))
    | inScope => exact .cons .inScope (ih (by simpa [itemsU] using hu))
    | inRegion => exact .cons .inRegion (ih (by simpa [itemsU] using hu))
    | beginRound => exact .cons .beginRound (ih (by simpa [itemsU] using hu))
omit [Globs] in
theorem rd_take {ρ : List Loc} {m : Nat} {x y : Option Nat} (h : RdR ρ x y) (hu : rdU m x = true) : RdR (ρ.take m) x y := by
  cases h with
  | none => exact .none
  | some h => exact .some (h.take hu)
omit [Globs] in
theorem defs_take {w : World} {O O' : Nat → Prop} (hO : ∀ b, O' b → O b) {ρ : List Loc} {m : Nat} {l : List AV} {ds : List Deferred} (h : L2 (DR w O ρ) l ds) (hu : AV.unders m l = true) : L2 (DR w O' (ρ.take m)) l ds := by
  induction h with
  | nil => exact .nil
  | @cons a b l ds h1 h2 ih =>
    simp only [AV.unders] at hu
    cases ha : a.under m with
    | false => simp [ha] at hu
    | true =>
      simp only [ha] at hu
      refine .cons ?_ (ih hu)
      cases h1 with
      | fn e1 e2 => exact .fn e1 fun i x v p q => (e2 i x v p q).take hO (unders_get (by simpa [AV.under] using ha) p)
      | col hr => exact .col (hr.take (by simpa [AV.under] using ha))

inductive FKept (m : Nat) : List AF → Prop
  | nil : FKept m []
  | cons {A S} : itemsU m A.todo = true → rdU m A.rd = true → AV.unders m A.D = true → (∀ t, (A.τ t).under m = true) → FKept m S → FKept m (A :: S)
omit [Globs] in
theorem frames_take {w : World} {O O' : Nat → Prop} (hO : ∀ b, O' b → O b) {ρ : List Loc} {m : Nat} {fs : List Frame} (h : L2 (FrR w O ρ) S fs) (hk : FKept m S) : L2 (FrR w O' (ρ.take m)) S fs := by
  induction h with
  | nil => exact .nil
  | @cons A fr S fs h1 h2 ih =>
    cases hk with
    | cons k1 k2 k3 k4 k5 => exact .cons ⟨h1.fn, h1.size, h1.slots.kept hO k4, items_take h1.todo k1, rd_take h1.rd k2, defs_take hO h1.defs k3, h1.kind, h1.mode⟩ (ih k5)

theorem runS_drop (m : Nat) {tt : List Item} {md : FrameMode} (hm : C.ar0.length ≤ m) (ht : takeA m ar = some ar') (hk : Kept m ar') (h1 : itemsU m tt = true) (h2 : rdU m rd = true) (h3 : AV.unders m D = true) (hS : FKept m S)
    (hr : RunS P f0 C (⟨f, n, scrub m τ, tt, rd, D, kd, md⟩ :: S) ar' Q) (hD : C.D = [] := by rfl) : RunS P f0 C (⟨f, n, τ, tt, rd, D, kd, md⟩ :: S) ar Q :=
  runS_weak (fun fs w ρ g1 g2 => by
    obtain ⟨r1, r2⟩ := rel_take g2 hm ht hk (by rw [hD]; rfl)
    obtain ⟨fr, m', rfl, hf, hn⟩ := l2_cons g1
    exact ⟨_, .cons ⟨hf.fn, hf.size, hf.slots.scrubbed r2 m, items_take hf.todo h1, rd_take hf.rd h2, defs_take r2 hf.defs h3, hf.kind, hf.mode⟩ (frames_take r2 hn hS), r1⟩) hr

def scrubFs (m : Nat) : List AF → List AF
  | [] => []
  | A :: S => ⟨A.f, A.n, scrub m A.τ, A.todo, A.rd, A.D, A.kind, A.mode⟩ :: scrubFs m S
omit [Globs] in
theorem scrub_less {w : World} {O : Nat → Prop} {ρ : List Loc} {tmps : Array Value} (m : Nat) (h : Slots w O ρ τ tmps) : Slots w O ρ (scrub m τ) tmps := fun t => by
  unfold scrub
  split
  · exact h t
  · exact .bad
theorem runS_forget (m : Nat) {A : AF} (hS : scrubFs m S = S') (hr : RunS P f0 C (A :: S') ar Q) : RunS P f0 C (A :: S) ar Q :=
  runS_weak (fun fs w ρ g1 g2 => by
    subst hS
    refine ⟨ρ, ?_, g2⟩
    obtain ⟨fr, m', rfl, hf, hn⟩ := l2_cons g1
    refine .cons hf ?_
    clear g1 hf hr
    induction hn with
    | nil => exact .nil
    | @cons B fb S fs h1 h2 ih => exact .cons ⟨h1.fn, h1.size, scrub_less m h1.slots, h1.todo, h1.rd, h1.defs, h1.kind, h1.mode⟩ ih) hr
theorem runS_forgetLoop (m id : Nat) {st pd f2 n2 τ2 ps asg bd} (hl : nth ar id = some (.loop st pd f2 n2 τ2 ps asg bd)) (har : setN ar id (.loop st pd f2 n2 (scrub m τ2) ps asg bd) = some ar') (hr : RunS P f0 C S ar' Q) : RunS P f0 C S ar Q :=
  runS_weak (fun fs w ρ h1 g5 => by
    obtain ⟨_, rfl⟩ := setN_spec _ _ _ _ har
    rw [nth_eq] at hl
    obtain ⟨L, hL⟩ : ∃ L, ρ[id]? = some L := ⟨ρ[id]'(by rw [g5.len]; exact (List.getElem?_eq_some_iff.1 hl).1), by simp⟩
    obtain ⟨q1, q2, q3⟩ := g5.put (L' := L) (o' := .loop st pd f2 n2 (scrub m τ2) ps asg bd) (w' := w) hl hL rfl (Nat.le_refl _) (fun _ _ _ => rfl) rfl rfl rfl (fun b hb => .inl hb) (Nat.le_refl _) (fun _ => rfl)
      (fun hp hc => by
        obtain ⟨a1, b, tmps, dd, a2, a3, a4, a5⟩ := (g5.obj _ _ L hl hL).mono hp hc (fun b hb => rfl)
        exact ⟨a1, b, tmps, dd, a2, a3, a4, scrub_less m a5⟩)
    exact ⟨_, h1.mono fun _ _ hf => hf.mono q2 q3, q1⟩) hr

omit [Globs] in
theorem frames_mono {w w' : World} {O O' : Nat → Prop} (hp : Pres w O w' O') {ρ ρ' : List Loc} (hc : Compat ρ ρ') {fs : List Frame} (h : L2 (FrR w O ρ) S fs) : L2 (FrR w' O' ρ') S fs := h.mono fun _ _ hf => hf.mono hp hc
omit [Globs] in
theorem pres_less {w : World} {O O' : Nat → Prop} (hO : ∀ b, O' b → O b) : Pres w O w O' := ⟨Nat.le_refl _, fun b _ hn => ⟨rfl, fun hn' => hn (hO b hn')⟩⟩

theorem runS_freeze (t : Nat) {id ver sz m : Nat} {e : TypeId} {r : Nat → List AV} {tt : List Item} {md : FrameMode} (hx : τ t = .row id ver) (hob : nth ar id = some (.row e sz ver m r)) (har : setN ar id .gone = some ar')
    (hd : ∀ i, i < m → AV.datas (r i) = true) (hr : RunS P f0 C (⟨f, n, upd τ t (.slc sz none m r), tt, rd, D, kd, md⟩ :: S) ar' Q) : RunS P f0 C (⟨f, n, τ, tt, rd, D, kd, md⟩ :: S) ar Q :=
  runS_weak (fun fs w ρ h1 h2 => by
    obtain ⟨_, rfl⟩ := setN_spec _ _ _ _ har
    rw [nth_eq] at hob
    obtain ⟨r1, r2, r3⟩ := rel_freeze h2 hob hd
    obtain ⟨fr, m, rfl, hf, hn⟩ := l2_cons h1
    have hp := pres_less (w := w) r2
    have hf' := hf.mono hp (Compat.refl _)
    refine ⟨ρ, .cons ⟨hf.fn, hf.size, fun j => ?_, hf'.todo, hf'.rd, hf'.defs, hf.kind, hf.mode⟩ (frames_mono hp (Compat.refl _) hn), r1⟩
    show RV _ _ _ (upd τ t _ j) _
    rw [upd_eq]
    split
    · rename_i hj
      subst hj
      exact r3 _ (hx ▸ hf.slots _)
    · exact hf'.slots j) hr

theorem runS_freezeBox (id : Nat) {e : TypeId} {cs : List AV} {tt : List Item} {md : FrameMode} (hob : nth ar id = some (.box e cs)) (har : setN ar id .gone = some ar') (hd : AV.datas cs = true) (hr : RunS P f0 C (⟨f, n, fun t => thaw id cs (τ t), tt, rd, D, kd, md⟩ :: S) ar' Q) :
    RunS P f0 C (⟨f, n, τ, tt, rd, D, kd, md⟩ :: S) ar Q :=
  runS_weak (fun fs w ρ h1 h2 => by
    obtain ⟨_, rfl⟩ := setN_spec _ _ _ _ har
    rw [nth_eq] at hob
    obtain ⟨r1, r2, r3⟩ := rel_freezeBox h2 hob hd
    obtain ⟨fr, m, rfl, hf, hn⟩ := l2_cons h1
    have hp := pres_less (w := w) r2
    have hf' := hf.mono hp (Compat.refl _)
    refine ⟨ρ, .cons ⟨hf.fn, hf.size, fun j => ?_, hf'.todo, hf'.rd, hf'.defs, hf.kind, hf.mode⟩ (frames_mono hp (Compat.refl _) hn), r1⟩
    exact thaw_ok r2 r3 3 (hf.slots j)) hr
end
omit [Globs] in
theorem ob0 {ob : Ob} (h : Obs ob := by repeat (first | exact obs_nil | refine obs_same ?_ | refine obs_and ?_ | refine obs_by (by (simp [inB] <;> omega)) ?_)) : Obs ob := h
omit [Globs] in
theorem ob1 {ob : Ob} (h : Obs ob := by repeat (first | exact obs_nil | refine obs_draw (by kernel_rfl) ?_ | refine obs_same ?_ | refine obs_and ?_ | refine obs_by (by (simp [inB] <;> omega)) ?_)) : Obs ob := h
omit [Globs] in
theorem oi {A B : Prop} (h : A ∨ B := by first | exact .inl (by decide +kernel) | exact .inr ⟨_, rfl, ob0⟩) : A ∨ B := h
omit [Globs] in
theorem oj {A B : Prop} (h : A ∨ B := by first | exact .inl (by decide +kernel) | exact .inr ⟨⟨_, rfl, ob0⟩, oi⟩) : A ∨ B := h
omit [Globs] in
theorem ok {A B : Prop} (h : A ∨ B := by first | exact .inl (by decide +kernel) | exact .inr ⟨oi, oi⟩) : A ∨ B := h
omit [Globs] in
theorem ol {A B : Prop} (h : A ∨ B := by first | exact .inl (by decide +kernel) | exact .inr ⟨⟨⟨_, rfl, ob0⟩, oi⟩, oj⟩) : A ∨ B := h
omit [Globs] in
theorem om {A B : Prop} (h : A ∨ B := by first | exact .inl (by decide +kernel) | exact .inr ⟨ok, ok⟩) : A ∨ B := h
omit [Globs] in
theorem on {A B : Prop} (h : A ∨ B := by first | exact .inl (by decide +kernel) | exact .inr ⟨⟨⟨⟨_, rfl, ob0⟩, oi⟩, oj⟩, ol⟩) : A ∨ B := h
end Go.Iron

/- Iron: contracts used by walks of several frames; rows that begin as nil. -/
namespace Go.Iron
variable [Globs]
section
variable {P : Program} {f0 : FuncId} {C : Cx} {S S' : List AF} {ar ar' ar2 : List AO} {Q : Out → List AO → Prop} {ops : Array Oper}
variable {f n : Nat} {τ τ' : Nat → AV} {rd : Option Nat} {D : List AV} {kd : CallKind} {k : List Item} {I : TI} {J : TJ} {fl : Fl}

theorem runS_call {i : Nat} {rest : List Nat} {o : Oper} {fo : Operand} {xs : Array Operand} {ts : Array TypeId} {g : FuncId} {caps as : List AV} {gn : Func} {c : Code} {r : AV} (ho : ops[i]? = some o) (hg : o.guard = none)
    (hop : o.op = .call { callee := .value fo, args := xs, argTypes := ts }) (hfo : evA τ fo = .fn (.func g) caps) [hF : Fun P g gn c]
    (has : xs.toList.map (evA τ) ++ caps = as) (hu : AV.unders 0 as = true) (hd : dstOK n o.dst = true) (h : CallT P g as [] (fun out A1 => out = .ret r ∧ A1 = []))
    (hr : RunS P f0 C (⟨f, n, updO τ o.dst r, .inRegion ops rest :: k, rd, D, kd, .run⟩ :: S) ar Q) : RunS P f0 C (⟨f, n, τ, .inRegion ops (i :: rest) :: k, rd, D, kd, .run⟩ :: S) ar Q :=
  runS11 (sim_contract (A := []) (A' := []) (B := ar) rfl ho hg hop hfo has hu .nil rfl h hd) hr

theorem runS_callP {i : Nat} {rest : List Nat} {o : Oper} {fo : Operand} {xs : Array Operand} {ts : Array TypeId} {g : FuncId} {caps as : List AV} {gn : Func} {c : Code} {t : TypeId} {x : AV} {v : Value} (ho : ops[i]? = some o) (hg : o.guard = none)
    (hop : o.op = .call { callee := .value fo, args := xs, argTypes := ts }) (hfo : evA τ fo = .fn (.func g) caps) [hF : Fun P g gn c]
    (has : xs.toList.map (evA τ) ++ caps = as) (hu : AV.unders 0 as = true) (hv : clV x = some v) (h : CallT P g as [] (fun out A1 => out = .pan (.ifc t x) ∧ A1 = []))
    (hr : RunS P f0 C (⟨f, n, τ, .inRegion ops (i :: rest) :: k, rd, D, kd, .panicking [{ v := .iface t v, recovered := false }]⟩ :: S) ar Q) : RunS P f0 C (⟨f, n, τ, .inRegion ops (i :: rest) :: k, rd, D, kd, .run⟩ :: S) ar Q :=
  runS11 (sim_contractP (A := []) (A' := []) (B := ar) rfl ho hg hop hfo has hu .nil rfl hv h) hr

theorem runS_callF (A A' B : List AO) {i : Nat} {rest : List Nat} {o : Oper} {fo : Operand} {xs : Array Operand} {ts : Array TypeId} {g : FuncId} {caps as : List AV} {gn : Func} {c : Code} {r : AV} (har : ar = A ++ B) (ho : ops[i]? = some o) (hg : o.guard = none)
    (hop : o.op = .call { callee := .value fo, args := xs, argTypes := ts }) (hfo : evA τ fo = .fn (.func g) caps) [hF : Fun P g gn c]
    (has : xs.toList.map (evA τ) ++ caps = as) (hu : AV.unders A.length as = true) (hk : Kept A.length A) (hA' : A'.length = A.length) (hd : dstOK n o.dst = true) (h : CallT P g as A (fun out A1 => out = .ret r ∧ A1 = A'))
    (hr : RunS P f0 C (⟨f, n, updO τ o.dst r, .inRegion ops rest :: k, rd, D, kd, .run⟩ :: S) (A' ++ B) Q) : RunS P f0 C (⟨f, n, τ, .inRegion ops (i :: rest) :: k, rd, D, kd, .run⟩ :: S) ar Q :=
  runS11 (sim_contract (A := A) (A' := A') (B := B) har ho hg hop hfo has hu hk hA' h hd) hr

theorem runS_callU {i : Nat} {rest : List Nat} {o : Oper} {fo : Operand} {xs : Array Operand} {ts : Array TypeId} {g : FuncId} {caps as : List AV} {gn : Func} {gc : Code} [hF : Fun P g gn gc] {d : Nat} {r : AV}
    {j : Nat} {want bb : Bool} {oc : Option Bool} (ho : ops[i]? = some o) (hg : o.guard = some (j, want)) (hb : GuardA n τ ops j oc bb) (hop : o.op = .call { callee := .value fo, args := xs, argTypes := ts })
    {l : List Nat} (hl : tmpsOf (fo :: xs.toList) = l) (hgk : GOKs (condOf oc bb want) τ l) (hfo : evA (opT l τ) fo = .fn (.func g) caps) (hdst : o.dst = some d) (hd : Nat.blt d n = true)
    (has : xs.toList.map (evA (opT l τ)) ++ caps = as) (hu : underAll as = true) (h : condOf oc bb want = true → CallT P g as [] (fun out A => out = .ret r ∧ A = []))
    (hr : RunS P f0 C (⟨f, n, upd τ d (.opt (condOf oc bb want) r), .inRegion ops rest :: k, rd, D, kd, .run⟩ :: S) ar Q) : RunS P f0 C (⟨f, n, τ, .inRegion ops (i :: rest) :: k, rd, D, kd, .run⟩ :: S) ar Q := by
  refine runS11 (A' := ⟨f, n, upd τ d (.opt (condOf oc bb want) r), .inRegion ops rest :: k, rd, D, kd, .run⟩) (ar' := ar) ?_ hr
  intro ts' w ρ cs hts hR
  obtain ⟨fr, m, rfl, hf, hn'⟩ := l2_cons hts
  cases hn'
  obtain ⟨k', h2, h0⟩ := top_op hf
  have hw := wanted_of (a := ⟨fr.tmps, fr.defers⟩) hf.slots hf.size hg hb
  have hdn' : d < fr.tmps.size := by rw [hf.size]; simpa [Nat.blt_eq] using hd
  cases hc : condOf oc bb want with
  | false =>
    refine ⟨[fr.atR ((⟨fr.tmps, fr.defers⟩ : Act).put o.dst undef) (.inRegion ops rest :: k')], w, ρ, Steps.one ?_, .cons ⟨hf.fn, by show (((⟨fr.tmps, fr.defers⟩ : Act).put o.dst undef).tmps).size = n; rw [put_tmps_size]; exact hf.size, ?_, .cons .inRegion h2, hf.rd, ?_, hf.kind, rfl⟩ .nil, hR, Compat.refl _, Pres.refl _ _⟩
    · have hst := stepR_op_skip (P := P) (b := fr) (a := ⟨fr.tmps, fr.defers⟩) (k := k') (cs := cs) (w := w) (ops := ops) (i := i) (rest := rest) (by simp [ho, hw, hc])
      simp only [ho, Option.bind_some] at hst
      rw [← h0, atR_self hf.mode] at hst
      exact hst
    · rw [hdst]
      exact slots_put (a := ⟨fr.tmps, fr.defers⟩) hf.slots hdn' (.opt (fun h' => by cases h') (fun _ => rfl))
    · show L2 _ D ((⟨fr.tmps, fr.defers⟩ : Act).put o.dst undef).defers
      rw [put_defers]
      exact hf.defs
  | true =>
    have hsl := opT_slots (w := w) (tmps := fr.tmps) hc hgk hf.slots
    have hfv := evA_ok (a := ⟨fr.tmps, fr.defers⟩) hsl fo
    rw [show evA (opT l τ) fo = _ from hfo] at hfv
    obtain ⟨cvs, hfo', hcl, hcr⟩ := rv_fn hfv
    obtain ⟨hl', hv⟩ := args_rv (a := ⟨fr.tmps, fr.defers⟩) hsl xs hcl hcr
    rw [show xs.toList.map (evA (opT l τ)) ++ caps = as from has] at hl' hv
    obtain ⟨e, w', fr', ⟨out, ρ', rfl, q1, q2, q3, q4⟩, hst, hfr, hlv⟩ := callT_pure (C := C) (ar := ar) (Q0 := fun out => out = .ret r) (h hc) hu hR hl' hv (fr :: cs)
    have hgo := stepGR_op (P := P) (b := fr) (a := ⟨fr.tmps, fr.defers⟩) (k := k') (cs := cs) (w := w) (rest := rest) ho (hw.trans hc)
    rw [Oper.semAt_eq _ _ _ (fun c h => by rw [hop] at h; cases h), ← h0, atR_self hf.mode] at hgo
    have henter : step P (lone fr cs w) = .next (lone (Frame.enter P g (xs.map (⟨fr.tmps, fr.defers⟩ : Act).eval ++ cvs) .normal) (fr :: cs) w) :=
      step_lone_go (by rw [hgo]; simp [stepG.apply, call_enter (P := P) (w := w) hF.h hF.b hF.nm hop hfo', h0])
    cases e with
    | returned v =>
      refine ⟨[fr.finish v], w', ρ', .head henter (Steps.trans hst (.one (step_leave_returned hlv))), .cons (fin_ok (τ2 := upd τ d (.opt true r)) (t2 := .inRegion ops rest :: k) (d := some d) (x := .opt true r) (by simp [finA, nth_eq, ho, hdst, updO]) hd (hf.mono q3 q2) (.opt (fun _ => q4) (fun h' => by cases h'))) .nil, q1, q2, q3⟩
    | panicked chain => exact q4.elim
    | outgrown => exact q4.elim

theorem runS_nilRow (t : Nat) (e : TypeId) (sz : Nat) {tt : List Item} {md : FrameMode} {idr : Nat} (r : Nat → List AV) (hx : τ t = .val (.slice none 0 0)) (har : snocN ar (.row e sz 0 0 r) = some (ar', idr))
    (hr : RunS P f0 C (⟨f, n, upd τ t (.row idr 0), tt, rd, D, kd, md⟩ :: S) ar' Q) : RunS P f0 C (⟨f, n, τ, tt, rd, D, kd, md⟩ :: S) ar Q :=
  runS_weak (fun fs w ρ h1 h2 => by
    obtain ⟨rfl, rfl⟩ := snocN_spec _ _ _ _ har
    obtain ⟨fr, m, rfl, hf, hn⟩ := l2_cons h1
    obtain ⟨r1, r2, r3⟩ := h2.add (o := .row e sz 0 0 r) (L := ⟨0, .slice none 0 0⟩) (w' := w) (Nat.le_refl _) (fun _ _ => rfl) rfl rfl rfl (fun b hb => by simp [Loc.has, Loc.more, Loc.blk] at hb)
      (fun hp => ⟨rfl, [], World.ownsRow_nil w 0 e sz, by simp, fun i h => by omega, fun i j x v h => by omega⟩)
    have hf' := hf.mono r2 r3
    refine ⟨_, .cons ⟨hf.fn, hf.size, fun j => ?_, hf'.todo, hf'.rd, hf'.defs, hf.kind, hf.mode⟩ (frames_mono r2 r3 hn), r1⟩
    show RV _ _ _ (upd τ t _ j) _
    rw [upd_eq]
    split
    · rename_i hj
      subst hj
      have := hf.slots j
      rw [show (⟨f, n, τ, tt, rd, D, kd, md⟩ : AF).τ j = _ from hx] at this
      have hv := rv_val this
      exact .row (L := ⟨0, .slice none 0 0⟩) (by rw [List.getElem?_append_right (by rw [h2.len]; exact Nat.le_refl _)]; simp [h2.len]) (Nat.le_refl _) (by rw [hv]; rfl) (fun _ => hv)
    · exact hf'.slots j) hr

theorem runS_tell (id : Nat) {ver sz m m' : Nat} {e : TypeId} {r : Nat → List AV} (r' : Nat → List AV) (hob : nth ar id = some (.row e sz ver m r)) (hm : m' = m) (hr' : ∀ i, i < m → r' i = r i) (har : setN ar id (.row e sz ver m' r') = some ar')
    (hr : RunS P f0 C S ar' Q) : RunS P f0 C S ar Q :=
  runS_weak (fun fs w ρ h1 g5 => by
    subst hm
    obtain ⟨_, rfl⟩ := setN_spec _ _ _ _ har
    rw [nth_eq] at hob
    obtain ⟨L, hL⟩ : ∃ L, ρ[id]? = some L := ⟨ρ[id]'(by rw [g5.len]; exact (List.getElem?_eq_some_iff.1 hob).1), by simp⟩
    obtain ⟨q1, q2, q3⟩ := g5.put (L' := L) (o' := .row e sz ver m' r') (w' := w) hob hL rfl (Nat.le_refl _) (fun _ _ _ => rfl) rfl rfl rfl (fun b hb => .inl hb) (Nat.le_refl _) (fun _ => rfl)
      (fun hp hc => by
        obtain ⟨a1, xs, a2, a3⟩ := (g5.obj _ _ L hob hL).mono hp hc (fun b hb => rfl)
        exact ⟨a1, xs, a2, a3.len, fun i hi => by rw [hr' i hi]; exact a3.rows i hi, fun i j x v hi hx hv => a3.get i j x v hi (by rw [← hr' i hi]; exact hx) hv⟩)
    exact ⟨_, frames_mono q2 q3 h1, q1⟩) hr
omit [Globs] in
theorem says_nil0 {c sz : Nat} {r : Nat → List AV} (hc : c ≤ maxLen) : Says (.val (.slice none 0 c)) (.slc sz none 0 r) := fun w O ρ v h => by
  have := rv_val h
  subst this
  exact .slc rfl (Nat.zero_le _) hc (fun b e => by cases e) (fun i h => by omega) (fun h => by omega) (fun _ _ => undef) (fun i j x a h => by omega) (fun i j x h => by omega)

omit [Globs] in
theorem says_nn {sz m : Nat} {r : Nat → List AV} (hm : 0 < m) : Says (.slc sz none m r) (.slc sz (some false) m r) := fun w O ρ v h => by
  obtain ⟨A, cap, g, rfl, h1, h2, h3, h4, h5, h6, h7⟩ := rv_slc h
  exact .slc rfl h1 h2 (fun b hb => by cases hb; obtain ⟨a, ha, _⟩ := h5 hm; rw [ha]; rfl) h4 h5 g h6 h7
omit [Globs] in
theorem says_nl {sz m : Nat} {nl : Option Bool} {r : Nat → List AV} : Says (.slc sz nl m r) (.slc sz none m r) := fun w O ρ v h => by
  obtain ⟨A, cap, g, rfl, h1, h2, h3, h4, h5, h6, h7⟩ := rv_slc h
  exact .slc rfl h1 h2 (fun b hb => by cases hb) h4 h5 g h6 h7

theorem runS_draw (T : Nat) {id : Nat} [hJ : Inf2 P J] (hB : drawB ops T = true) (hl : LexJ P n ar ops 0 (ops.toList.take T) τ τ') (hr : RunS P f0 C (⟨f, n, τ', .inRegion ops (List.range' T (ops.size - T)) :: k, rd, D, kd, .run⟩ :: S) ar Q) :
    RunS P f0 C (⟨f, n, τ, .code (.region id ops true) :: k, rd, D, kd, .run⟩ :: S) ar Q := runS11 (sim_draw T hJ.draw hB hl) hr

def encR {α : Type} (enc : α → List AV) (d : α) (xs : List α) : Nat → List AV := fun i => enc (xs.getD i d)
omit [Globs] in
theorem encR_snoc {α : Type} {enc : α → List AV} {d : α} {acc : List α} {v : α} {r2 : Nat → List AV} (h : r2 0 = enc v) : ∀ j, j < acc.length + 1 → encR enc d (acc ++ [v]) j = appR acc.length (encR enc d acc) r2 j := by
  intro j hj
  unfold encR
  by_cases h1 : j < acc.length
  · rw [appR_lt h1]
    simp [List.getD_eq_getElem?_getD, List.getElem?_append_left h1]
  · rw [appR_ge (by omega)]
    have : j = acc.length := by omega
    subst this
    rw [Nat.sub_self, h]
    simp [List.getD_eq_getElem?_getD]
end
end Go.Iron

/- Iron: families of rows, held by the elements of another row. -/
namespace Go.Iron
variable [Globs]
section
variable {P : Program} {f0 : FuncId} {C : Cx} {S S' : List AF} {ar ar' : List AO} {Q : Out → List AO → Prop}

end
end Go.Iron

/- Iron: regions that draw their order, with one store among what is drawn. -/
namespace Go.Iron
variable [Globs]
section
variable {P : Program} {f0 : FuncId} {C : Cx} {S S' : List AF} {ar0 ar1 : List AO} {Q : Out → List AO → Prop} {ops : Array Oper}
variable {f n s : Nat} {τ τ' : Nat → AV} {rd : Option Nat} {D : List AV} {kd : CallKind} {k : List Item} {I : TI} {J : TJ}

def SimOp (P : Program) (n : Nat) (ops : Array Oper) (i : Nat) (o : Oper) (τ : Nat → AV) (x : AV) (ar ar' : List AO) : Prop :=
  ∀ τ2 : Nat → AV, (∀ t, t ∈ o.looksAt ops → τ2 t = τ t) → ∀ (C : Cx) (f : FuncId) (rd : Option Nat) (D : List AV) (kd : CallKind) (rest : List Nat) (k : List Item),
    SimT P C [⟨f, n, τ2, .inRegion ops (i :: rest) :: k, rd, D, kd, .run⟩] ar [⟨f, n, updO τ2 o.dst x, .inRegion ops rest :: k, rd, D, kd, .run⟩] ar'
theorem SimOp.congr {i : Nat} {o : Oper} {x : AV} {ar ar' : List AO} (h : SimOp P n ops i o τ x ar ar') (ht : ∀ t, t ∈ o.looksAt ops → τ' t = τ t) : SimOp P n ops i o τ' x ar ar' :=
  fun τ2 h2 => h τ2 (fun t hm => (h2 t hm).trans (ht t hm))

def OpK (P : Program) (n s : Nat) (ar0 ar1 : List AO) (ops : Array Oper) (i : Nat) (o : Oper) (τ : Nat → AV) (x : AV) : Prop :=
  (i = s → SimOp P n ops i o τ x ar0 ar1) ∧ (i ≠ s → SimOp P n ops i o τ x ar0 ar0 ∧ SimOp P n ops i o τ x ar1 ar1)
theorem OpK.congr {i : Nat} {o : Oper} {x : AV} (h : OpK P n s ar0 ar1 ops i o τ x) (ht : ∀ t, t ∈ o.looksAt ops → τ' t = τ t) : OpK P n s ar0 ar1 ops i o τ' x :=
  ⟨fun e => (h.1 e).congr ht, fun e => ⟨(h.2 e).1.congr ht, (h.2 e).2.congr ht⟩⟩

theorem simOp_step {i : Nat} {o : Oper} {x : AV} {l : List Nat} {ar ar' : List AO} (ho : ops[i]? = some o) (hg : o.guard = none) (hdn : ∀ d, o.dst = some d → Nat.blt d n = true) (hl : tmpsOf o.op.operands.toList = l) (hs : OpStep P (opR l τ) ar o x ar') : SimOp P n ops i o τ x ar ar' := by
  intro τ2 h2 C f rd D kd rest k
  exact sim_op ho hg hdn (hs.slots (opR_slots (fun t ht => h2 t (looks_of (by rw [hl]; exact ht)))))

end
end Go.Iron

/- Iron: regions that draw their order: what is made goes into holes, a call may be under a guard, a call may panic. -/
namespace Go.Iron

variable [Globs]
def dstAt (ops : Array Oper) (i : Nat) : Option Nat := (ops[i]?).bind (·.dst)
def canon (ops : Array Oper) (T : Nat) : Array Bool := ((List.range ops.size).map fun i => decide (i < T)).toArray
def okG (ops : Array Oper) (T : Nat) (E : List Nat) : Bool :=
  Nat.ble T ops.size && tailB ops (ops.size - T) T (canon ops T) && E.all (fun e => Nat.blt e T) &&
  (List.range T).all (fun j => match ops[j]? with
    | none => false
    | some o => o.after.all (fun e => !Region.binds .any e || Nat.blt e.on j) &&
      (o.looksAt ops).all (fun t => (List.range T).all fun i => !(dstAt ops i == some t) || dirB ops i j) &&
      (List.range T).all (fun i => i == j || o.dst.isNone || !(dstAt ops i == o.dst))) &&
  (List.range' T (ops.size - T)).all (fun j => match ops[j]? with
    | none => false
    | some o => o.after.any (fun e => Region.binds .any e && Nat.ble T e.on && Nat.blt e.on ops.size) || (List.range T).all (fun i => lateB ops i 6 j))

def msk (E : List Nat) (listed : Array Bool) : List Bool := E.map fun i => listed.getD i true
def setE (j : Nat) : List Nat → List Bool → List Bool
  | e :: E, b :: l => (match Nat.beq e j with
    | true => true
    | false => b) :: setE j E l
  | _, _ => []
def freeO (ops : Array Oper) (j : Nat) : List Nat → List Bool → Bool
  | e :: E, b :: l => match Nat.beq e j || dirB ops j e, b with
    | true, true => false
    | _, _ => freeO ops j E l
  | [], [] => true
  | _, _ => false
def doneE (ops : Array Oper) (j : Nat) : List Nat → List Bool → Bool
  | e :: E, b :: l => (!dirB ops e j || b) && doneE ops j E l
  | _, _ => true
def freeE (ops : Array Oper) (j : Nat) (E : List Nat) (b : List Bool) : Bool := freeO ops j E b && doneE ops j E b
omit [Globs] in
theorem freeE_O {ops : Array Oper} {j : Nat} {E : List Nat} {b : List Bool} (h : freeE ops j E b = true) : freeO ops j E b = true := by
  unfold freeE at h
  rw [Bool.and_eq_true] at h
  exact h.1
omit [Globs] in
theorem freeE_D {ops : Array Oper} {j : Nat} {E : List Nat} {b : List Bool} (h : freeE ops j E b = true) : doneE ops j E b = true := by
  unfold freeE at h
  rw [Bool.and_eq_true] at h
  exact h.2
omit [Globs] in
theorem msk_done {ops : Array Oper} (E : List Nat) (listed : Array Bool) (j : Nat) (h : ∀ e ∈ E, dirB ops e j = true → listed.getD e true = true) : doneE ops j E (msk E listed) = true := by
  induction E with
  | nil => rfl
  | cons e E ih =>
    show ((!dirB ops e j || listed.getD e true) && doneE ops j E (msk E listed)) = true
    rw [ih (fun e' he' => h e' (.tail _ he')), Bool.and_true]
    cases hd : dirB ops e j with
    | false => rfl
    | true => rw [h e (.head _) hd]; rfl

omit [Globs] in
theorem msk_set (E : List Nat) (listed : Array Bool) (j : Nat) : msk E (listed.setIfInBounds j true) = setE j E (msk E listed) := by
  induction E with
  | nil => rfl
  | cons e E ih =>
    show (listed.setIfInBounds j true).getD e true :: msk E _ = (match Nat.beq e j with | true => true | false => listed.getD e true) :: setE j E (msk E listed)
    rw [ih, getD_set]
    congr 1
    by_cases h : e = j
    · subst h; simp [Nat.beq_refl]
    · have : Nat.beq e j = false := by rw [Bool.eq_false_iff]; simp [h]
      simp [this, h]
omit [Globs] in
theorem msk_freeO {ops : Array Oper} (E : List Nat) (listed : Array Bool) (j : Nat) (h : listed.getD j true = false) (hcl : ∀ e ∈ E, dirB ops j e = true → listed.getD e true = false) : freeO ops j E (msk E listed) = true := by
  induction E with
  | nil => rfl
  | cons e E ih =>
    show freeO ops j (e :: E) (listed.getD e true :: msk E listed) = true
    unfold freeO
    have ih' := ih (fun e' he' => hcl e' (.tail _ he'))
    cases hc : Nat.beq e j || dirB ops j e with
    | false => exact ih'
    | true =>
      have : listed.getD e true = false := by
        simp only [Bool.or_eq_true] at hc
        rcases hc with hc | hc
        · rw [Nat.eq_of_beq_eq_true hc]; exact h
        · exact hcl e (.head _) hc
      rw [this]
      exact ih'
def AllM (ops : Array Oper) (i : Nat) : List Nat → (List Bool → Prop) → Prop
  | [], X => X []
  | e :: E, X => AllM ops i E (fun b => X (false :: b)) ∧ ((Nat.beq e i || dirB ops i e) = true ∨ AllM ops i E (fun b => X (true :: b)))
omit [Globs] in
theorem allM_specO {ops : Array Oper} {i : Nat} : ∀ {E : List Nat} {X : List Bool → Prop}, AllM ops i E X → ∀ b, freeO ops i E b = true → X b
  | [], X, h, b, hb => by
    cases b with
    | nil => exact h
    | cons _ _ => simp [freeO] at hb
  | e :: E, X, h, b, hb => by
    cases b with
    | nil => simp [freeO] at hb
    | cons v b =>
      unfold freeO at hb
      cases v with
      | false => exact allM_specO h.1 b (by revert hb; cases Nat.beq e i || dirB ops i e <;> exact fun h => h)
      | true =>
        rcases h.2 with h2 | h2
        · rw [h2] at hb; cases hb
        · refine allM_specO h2 b ?_
          revert hb
          cases Nat.beq e i || dirB ops i e with
          | true => intro h; cases h
          | false => exact fun h => h
omit [Globs] in
theorem allM_spec {ops : Array Oper} {i : Nat} {E : List Nat} {X : List Bool → Prop} (h : AllM ops i E X) (b : List Bool) (hb : freeE ops i E b = true) : X b := allM_specO h b (freeE_O hb)
def AllD (ops : Array Oper) (i : Nat) : List Nat → (List Bool → Prop) → Prop
  | [], X => X []
  | e :: E, X => (dirB ops e i = true ∨ AllD ops i E (fun b => X (false :: b))) ∧ ((Nat.beq e i || dirB ops i e) = true ∨ AllD ops i E (fun b => X (true :: b)))
omit [Globs] in
theorem allD_spec {ops : Array Oper} {i : Nat} : ∀ {E : List Nat} {X : List Bool → Prop}, AllD ops i E X → ∀ b, freeO ops i E b = true → doneE ops i E b = true → X b
  | [], X, h, b, hb, _ => by
    cases b with
    | nil => exact h
    | cons _ _ => simp [freeO] at hb
  | e :: E, X, h, b, hb, hd => by
    cases b with
    | nil => simp [freeO] at hb
    | cons v b =>
      unfold freeO at hb
      unfold doneE at hd
      rw [Bool.and_eq_true] at hd
      cases v with
      | false =>
        rcases h.1 with h1 | h1
        · rw [h1] at hd
          exact absurd hd.1 (by decide)
        · exact allD_spec h1 b (by revert hb; cases Nat.beq e i || dirB ops i e <;> exact fun h => h) hd.2
      | true =>
        rcases h.2 with h2 | h2
        · rw [h2] at hb; cases hb
        · refine allD_spec h2 b ?_ hd.2
          revert hb
          cases Nat.beq e i || dirB ops i e with
          | true => intro h; cases h
          | false => exact fun h => h

def cntB (g : Nat → Bool) : Nat → Nat
  | 0 => 0
  | T + 1 => cntB g T + (match g T with | true => 1 | false => 0)
omit [Globs] in
theorem cntB_out {g g' : Nat → Bool} {j : Nat} (h : ∀ i, i ≠ j → g i = g' i) : ∀ T, T ≤ j → cntB g T = cntB g' T
  | 0, _ => rfl
  | T + 1, hT => by rw [cntB, cntB, cntB_out h T (by omega), h T (by omega)]
omit [Globs] in
theorem cntB_set {g g' : Nat → Bool} {j : Nat} (h : ∀ i, i ≠ j → g i = g' i) (hj : g j = true) (hj' : g' j = false) : ∀ T, j < T → cntB g T = cntB g' T + 1
  | 0, hT => by omega
  | T + 1, hT => by
    rw [cntB, cntB]
    by_cases hjT : j = T
    · subst hjT
      rw [cntB_out h j (Nat.le_refl _), hj, hj']
      rfl
    · rw [cntB_set h hj hj' T (by omega), h T (by omega)]
      omega
omit [Globs] in
theorem cntB_zero {g : Nat → Bool} : ∀ T, cntB g T = 0 → ∀ i, i < T → g i = false
  | 0, _, i, hi => by omega
  | T + 1, h, i, hi => by
    rw [cntB] at h
    by_cases hiT : i = T
    · subst hiT
      cases hg : g i with
      | true => rw [hg] at h; simp at h
      | false => rfl
    · exact cntB_zero T (by omega) i (by omega)
omit [Globs] in
theorem cntB_pos {g : Nat → Bool} : ∀ T, 0 < cntB g T → ∃ i, i < T ∧ g i = true ∧ ∀ k, k < i → g k = false
  | 0, h => by simp [cntB] at h
  | T + 1, h => by
    by_cases h0 : 0 < cntB g T
    · obtain ⟨i, h1, h2, h3⟩ := cntB_pos T h0
      exact ⟨i, by omega, h2, h3⟩
    · rw [cntB] at h
      refine ⟨T, by omega, ?_, fun k hk => cntB_zero T (by omega) k hk⟩
      cases hg : g T with
      | true => rfl
      | false => rw [hg] at h; simp at h; omega

section
variable {P : Program} {f0 : FuncId} {C : Cx} {S S' : List AF} {ar0 ar1 ar ar' : List AO} {Q : Out → List AO → Prop} {ops : Array Oper}
variable {f n s T : Nat} {τ τ' : Nat → AV} {rd : Option Nat} {D : List AV} {kd : CallKind} {k : List Item} {I : TI} {J : TJ} {E : List Nat} {A A2 : List Bool → List AO} {ch : List PanicEntry} {q : Option Nat}

def OpG (P : Program) (n : Nat) (E : List Nat) (A : List Bool → List AO) (ops : Array Oper) (i : Nat) (o : Oper) (τ : Nat → AV) (x : AV) : Prop :=
  ∀ b, freeE ops i E b = true → SimOp P n ops i o τ x (A b) (A (setE i E b))
theorem OpG.congr {i : Nat} {o : Oper} {x : AV} (h : OpG P n E A ops i o τ x) (ht : ∀ t, t ∈ o.looksAt ops → τ' t = τ t) : OpG P n E A ops i o τ' x := fun b hb => (h b hb).congr ht
def PanG (P : Program) (n : Nat) (E : List Nat) (A A2 : List Bool → List AO) (ch : List PanicEntry) (ops : Array Oper) (i : Nat) (o : Oper) (τ : Nat → AV) : Prop :=
  ∀ b, freeE ops i E b = true → ∀ τ2 : Nat → AV, (∀ t, t ∈ o.looksAt ops → τ2 t = τ t) → ∀ (C : Cx) (f : FuncId) (rd : Option Nat) (D : List AV) (kd : CallKind) (rest : List Nat) (k : List Item),
    SimT P C [⟨f, n, τ2, .inRegion ops (i :: rest) :: k, rd, D, kd, .run⟩] (A b) [⟨f, n, τ2, .inRegion ops (i :: rest) :: k, rd, D, kd, .panicking ch⟩] (A2 b)
theorem PanG.congr {i : Nat} {o : Oper} (h : PanG P n E A A2 ch ops i o τ) (ht : ∀ t, t ∈ o.looksAt ops → τ' t = τ t) : PanG P n E A A2 ch ops i o τ' := fun b hb τ2 h2 => h b hb τ2 fun t hm => (h2 t hm).trans (ht t hm)

def isQ (q : Option Nat) (i : Nat) : Bool := match q with
  | some j => Nat.beq j i
  | none => false
def isLate (ops : Array Oper) (q : Option Nat) (c i : Nat) : Bool := match q with
  | some j => lateB ops j c i
  | none => false
def LexG (P : Program) (n : Nat) (E : List Nat) (A A2 : List Bool → List AO) (ch : List PanicEntry) (q : Option Nat) (c : Nat) (ops : Array Oper) : Nat → List Oper → (Nat → AV) → (Nat → AV) → Prop
  | _, [], τ, τ' => τ' = τ
  | i, o :: l, τ, τ' => ∃ x, ((isQ q i = true ∧ PanG P n E A A2 ch ops i o τ) ∨ (isQ q i = false ∧ isLate ops q c i = true) ∨ (isQ q i = false ∧ OpG P n E A ops i o τ x)) ∧ LexG P n E A A2 ch q c ops (i + 1) l (updO τ o.dst x) τ'

theorem lexG_out {c : Nat} : ∀ (l : List Oper) (i : Nat) (τ : Nat → AV), LexG P n E A A2 ch q c ops i l τ τ' → ∀ t, (∀ o ∈ l, o.dst ≠ some t) → τ' t = τ t
  | [], i, τ, h, t, _ => by rw [show τ' = τ from h]
  | o :: l, i, τ, h, t, ht => by
    obtain ⟨x, _, h2⟩ := h
    rw [lexG_out l (i + 1) _ h2 t (fun o' ho' => ht o' (.tail _ ho'))]
    exact updO_other τ (fun e => ht o (.head _) e)

theorem lexG_get {c : Nat} : ∀ (l : List Oper) (i : Nat) (τ : Nat → AV), LexG P n E A A2 ch q c ops i l τ τ' → ∀ (j : Nat) o, l[j]? = some o →
    ∃ τj x, ((isQ q (i + j) = true ∧ PanG P n E A A2 ch ops (i + j) o τj) ∨ (isQ q (i + j) = false ∧ isLate ops q c (i + j) = true) ∨ (isQ q (i + j) = false ∧ OpG P n E A ops (i + j) o τj x)) ∧
      (∀ t, (∀ (m : Nat) o', j ≤ m → l[m]? = some o' → o'.dst ≠ some t) → τ' t = τj t) ∧ ((∀ (m : Nat) o', j < m → l[m]? = some o' → o.dst.isSome = true → o'.dst ≠ o.dst) → ∀ d, o.dst = some d → τ' d = x)
  | [], i, τ, h, j, o, hj => by simp at hj
  | o0 :: l, i, τ, h, 0, o, hj => by
    simp at hj
    subst hj
    obtain ⟨x, h1, h2⟩ := h
    refine ⟨τ, x, h1, fun t ht => ?_, fun hd d e => ?_⟩
    · rw [lexG_out l (i + 1) _ h2 t (fun o' ho' => by
        obtain ⟨m, hm⟩ := List.mem_iff_getElem?.1 ho'
        exact ht (m + 1) o' (by omega) (by simpa using hm))]
      exact updO_other τ (fun e => ht 0 o0 (Nat.le_refl _) rfl e)
    · rw [lexG_out l (i + 1) _ h2 d (fun o' ho' => by
        obtain ⟨m, hm⟩ := List.mem_iff_getElem?.1 ho'
        have := hd (m + 1) o' (by omega) (by simpa using hm) (by rw [e]; rfl)
        rwa [e] at this)]
      rw [e]
      show upd τ d x d = x
      rw [upd_eq]; simp
  | o0 :: l, i, τ, h, j + 1, o, hj => by
    obtain ⟨x, _, h2⟩ := h
    obtain ⟨τj, y, a1, a2, a3⟩ := lexG_get l (i + 1) _ h2 j o (by simpa using hj)
    rw [show i + 1 + j = i + (j + 1) by omega] at a1
    refine ⟨τj, y, a1, fun t ht => a2 t fun m o' hm ho' => ht (m + 1) o' (by omega) (by simpa using ho'), fun hd => a3 fun m o' hm ho' => hd (m + 1) o' (by omega) (by simpa using ho')⟩

omit [Globs] in
theorem okG_spec (h : okG ops T E = true) : T ≤ ops.size ∧ tailB ops (ops.size - T) T (canon ops T) = true ∧ (∀ e ∈ E, e < T) ∧
    (∀ (j : Nat), j < T → ∃ o, ops[j]? = some o ∧ (∀ e ∈ o.after, Region.binds .any e = true → e.on < j) ∧ (∀ t ∈ o.looksAt ops, ∀ i, i < T → dstAt ops i = some t → dirB ops i j = true) ∧
      (∀ i, i < T → i ≠ j → o.dst.isSome = true → dstAt ops i ≠ o.dst)) ∧
    (∀ (j : Nat), T ≤ j → j < ops.size → ∃ o, ops[j]? = some o ∧ ((∃ e ∈ o.after, Region.binds .any e = true ∧ T ≤ e.on ∧ e.on < ops.size) ∨ ∀ i, i < T → lateB ops i 6 j = true)) := by
  unfold okG at h
  simp only [Bool.and_eq_true, Nat.ble_eq, List.all_eq_true, Nat.blt_eq, List.mem_range] at h
  obtain ⟨⟨⟨⟨h1, h2⟩, h3⟩, h4⟩, h5⟩ := h
  refine ⟨h1, h2, h3, fun j hj => ?_, fun j hj hj2 => ?_⟩
  · have := h4 j hj
    cases ho : ops[j]? with
    | none => rw [ho] at this; cases this
    | some o =>
      rw [ho] at this
      simp only [Bool.and_eq_true, Array.all_eq_true_iff_forall_mem, List.all_eq_true, List.mem_range, Bool.or_eq_true, Bool.not_eq_true', Nat.blt_eq, beq_eq_false_iff_ne, ne_eq, beq_iff_eq] at this
      obtain ⟨⟨a1, a2⟩, a3⟩ := this
      refine ⟨o, rfl, fun e he hb => ?_, fun t ht i hi hd => ?_, fun i hi hij hs hd => ?_⟩
      · rcases a1 e he with h' | h'
        · rw [hb] at h'; cases h'
        · exact h'
      · rcases a2 t ht i hi with h' | h'
        · exact absurd hd h'
        · exact h'
      · rcases a3 i hi with (h' | h') | h'
        · exact hij h'
        · cases hdd : o.dst <;> simp [hdd] at hs h'
        · exact h' hd
  · have := h5 j (by rw [List.mem_range'_1]; omega)
    cases ho : ops[j]? with
    | none => rw [ho] at this; cases this
    | some o =>
      rw [ho] at this
      simp only [Bool.or_eq_true, any_mem, Bool.and_eq_true, Nat.ble_eq, Nat.blt_eq, List.all_eq_true, List.mem_range] at this
      refine ⟨o, rfl, this.imp (fun ⟨e, he, h'⟩ => ⟨e, he, h'.1.1, h'.1.2, h'.2⟩) (fun h' i hi => h' i hi)⟩

def unl (ops : Array Oper) (T : Nat) (listed : Array Bool) (t : Nat) : Bool := (List.range T).any fun i => !listed.getD i true && dstAt ops i == some t
def slotsS (ops : Array Oper) (T : Nat) (τ0 τ' : Nat → AV) (listed : Array Bool) : Nat → AV := fun t => match unl ops T listed t with
  | true => τ0 t
  | false => τ' t
omit [Globs] in
theorem unl_iff {listed : Array Bool} {t : Nat} : unl ops T listed t = true ↔ ∃ i, i < T ∧ listed.getD i true = false ∧ dstAt ops i = some t := by
  unfold unl
  simp

def dstsIn : List Oper → Nat → Bool
  | [], _ => false
  | o :: l, t => match o.dst with
    | some d => match Nat.beq d t with
      | true => true
      | false => dstsIn l t
    | none => dstsIn l t
omit [Globs] in
theorem dstsIn_no {l : List Oper} {t : Nat} (h : dstsIn l t = false) : ∀ o ∈ l, o.dst ≠ some t := by
  induction l with
  | nil => simp
  | cons o l ih =>
    intro o' ho' hd
    unfold dstsIn at h
    rcases List.mem_cons.1 ho' with rfl | hm
    · rw [hd] at h
      simp only [Nat.beq_refl] at h
      cases h
    · refine ih ?_ o' hm hd
      split at h
      · split at h
        · cases h
        · exact h
      · exact h
def leftS (ops : Array Oper) (τ : Nat → AV) : Nat → AV := fun t => match dstsIn ops.toList t with
  | true => .bad
  | false => τ t
theorem runS_anyG {τ0 : Nat → AV} {c : Nat} (hok : okG ops T E = true) (hq : ∀ j, q = some j → j < T)
    (hS : ∀ (j : Nat) o, j < T → ops[j]? = some o → isQ q j = false → isLate ops q c j = false → ∃ x, OpG P n E A ops j o τ' x ∧ ∀ d, o.dst = some d → τ' d = x)
    (hP : ∀ (j : Nat) o, q = some j → ops[j]? = some o → PanG P n E A A2 ch ops j o τ')
    (hfin : q = none → RunS P f0 C (⟨f, n, τ', .inRegion ops (List.range' T (ops.size - T)) :: k, rd, D, kd, .run⟩ :: S) (A (E.map fun _ => true)) Q)
    (hout : ∀ t, dstsIn ops.toList t = false → τ' t = τ0 t)
    (hpan : q.isSome = true → ∀ b tt, RunS P f0 C (⟨f, n, leftS ops τ0, .inRegion ops tt :: k, rd, D, kd, .panicking ch⟩ :: S) (A2 b) Q) :
    ∀ (fuel : Nat) (listed : Array Bool), listed.size = ops.size → (∀ (j : Nat), T ≤ j → j < ops.size → listed.getD j true = false) → (∀ j, q = some j → listed.getD j true = false) →
      (∀ c' j, j < T → isLate ops q c' j = true → listed.getD j true = false) → (∀ i j, j < ops.size → listed.getD j true = true → dirB ops i j = true → listed.getD i false = true) → cntB (fun i => !listed.getD i true) T = fuel →
      ∀ t, RunS P f0 C (⟨f, n, slotsS ops T τ0 τ' listed, .inRegion ops (Region.linearise.go .any ops (fuel + (ops.size - T)) t listed []) :: k, rd, D, kd, .run⟩ :: S) (A (msk E listed)) Q
  | 0, listed, hsz, h1, h2, h3, hcl, hc, t => by
    obtain ⟨k1, k2, k3, k4, k5⟩ := okG_spec hok
    have hall : ∀ i, i < T → listed.getD i true = true := fun i hi => by have := cntB_zero T hc i hi; simpa using this
    have hcan : listed = canon ops T := by
      apply Array.ext
      · simp [canon, hsz]
      · intro i hi1 hi2
        have hi : i < ops.size := by omega
        have e1 : listed[i] = listed.getD i true := by simp [Array.getD_eq_getD_getElem?, hi1]
        rw [e1]
        simp only [canon, List.getElem_toArray, List.getElem_map, List.getElem_range]
        by_cases hiT : i < T
        · rw [hall i hiT]; simp [hiT]
        · rw [h1 i (by omega) hi]; simp [hiT]
    have hqn : q = none := by
      cases hq' : q with
      | none => rfl
      | some j => have := hall j (hq j hq'); rw [h2 j hq'] at this; cases this
    rw [Nat.zero_add, hcan, go_tail _ _ _ _ k2]
    have hs : slotsS ops T τ0 τ' (canon ops T) = τ' := by
      funext t
      unfold slotsS
      cases hu : unl ops T (canon ops T) t with
      | false => rfl
      | true =>
        obtain ⟨i, a, b, _⟩ := unl_iff.1 hu
        rw [← hcan, hall i a] at b
        cases b
    have hm : msk E (canon ops T) = E.map fun _ => true := by
      unfold msk
      exact List.map_congr_left fun e he => by rw [← hcan]; exact hall e (k3 e he)
    rw [hs, hm]
    exact hfin hqn
  | fuel + 1, listed, hsz, h1, h2, h3, hcl, hc, t => by
    obtain ⟨k1, k2, k3, k4, k5⟩ := okG_spec hok
    have hex : ∃ i, i < T ∧ listed.getD i true = false ∧ ∀ k, k < i → listed.getD k true = true := by
      obtain ⟨i, a1, a2, a3⟩ := cntB_pos (g := fun i => !listed.getD i true) T (by omega)
      exact ⟨i, a1, by simpa using a2, fun k hk => by simpa using a3 k hk⟩
    have hne : Region.ready .any ops listed ≠ [] := by
      obtain ⟨i, a1, a2, a3⟩ := hex
      obtain ⟨o, ho, b1, _⟩ := k4 i a1
      have : i ∈ Region.ready .any ops listed := mem_ready.2 ⟨a2, o, ho, fun e he hb => by
        have := b1 e he hb
        rw [← getD_tf (by omega)]
        exact a3 _ this⟩
      intro hn
      rw [hn] at this
      cases this
    rw [show fuel + 1 + (ops.size - T) = (fuel + (ops.size - T)) + 1 by omega]
    simp only [Region.linearise.go]
    change RunS P f0 C (⟨f, n, _, .inRegion ops (match (Region.ready .any ops listed)[t % (Region.ready .any ops listed).length]? with
      | some i => Region.linearise.go .any ops (fuel + (ops.size - T)) (t / (Region.ready .any ops listed).length) (listed.setIfInBounds i true) [i]
      | none => [].reverse) :: k, rd, D, kd, .run⟩ :: S) _ Q
    cases hi : (Region.ready .any ops listed)[t % (Region.ready .any ops listed).length]? with
    | none =>
      exfalso
      cases hr : Region.ready .any ops listed with
      | nil => exact hne hr
      | cons x xs =>
        rw [hr] at hi
        have hlt : t % (x :: xs).length < (x :: xs).length := Nat.mod_lt _ (by simp)
        simp at hi
        simp at hlt
        omega
    | some j =>
      simp only []
      rw [linearise_go_acc, List.reverse_singleton, List.singleton_append]
      obtain ⟨hun, oj, hoj, hdeps⟩ := mem_ready.1 (List.mem_of_getElem? hi)
      have hjs : j < ops.size := (Array.getElem?_eq_some_iff.1 hoj).1
      have hjT : j < T := by
        rcases Nat.lt_or_ge j T with h' | h'
        · exact h'
        · exfalso
          obtain ⟨o, ho, hor⟩ := k5 j h' hjs
          rw [hoj] at ho
          cases ho
          rcases hor with ⟨e, he, hb, a, b⟩ | hd
          · have := hdeps e he hb
            rw [← getD_tf (by omega), h1 e.on a b] at this
            cases this
          · obtain ⟨i, a1, a2, _⟩ := hex
            have := late_listed (q := i) hcl 6 j oj hoj hdeps (hd i a1)
            rw [← getD_tf (by omega), a2] at this
            cases this
      obtain ⟨o, ho, b1, b2, b3⟩ := k4 j hjT
      rw [hoj] at ho
      cases ho
      have hlook : ∀ t, t ∈ oj.looksAt ops → slotsS ops T τ0 τ' listed t = τ' t := by
        intro t ht
        unfold slotsS
        cases hu : unl ops T listed t with
        | false => rfl
        | true =>
          obtain ⟨i, a, b, d⟩ := unl_iff.1 hu
          obtain ⟨e, he, hb, rfl⟩ := (dirB_iff hoj).1 (b2 t ht i a d)
          have := hdeps e he hb
          rw [← getD_tf (by omega), b] at this
          cases this
      have hlate : ∀ c', isLate ops q c' j = false := by
        intro c'
        cases hl : isLate ops q c' j with
        | false => rfl
        | true =>
          exfalso
          cases hq' : q with
          | none => rw [hq'] at hl; cases hl
          | some p =>
            rw [hq'] at hl
            cases c' with
            | zero => cases hl
            | succ c' =>
              simp only [isLate, lateB, hoj, any_mem, Bool.and_eq_true, Bool.or_eq_true, beq_iff_eq] at hl
              obtain ⟨e, he, hb, hl⟩ := hl
              have hlt := b1 e he hb
              have hlisted := hdeps e he hb
              rw [← getD_tf (by omega)] at hlisted
              rcases hl with rfl | hl
              · rw [h2 _ hq'] at hlisted; cases hlisted
              · have := h3 c' e.on (by omega) (by rw [hq']; exact hl)
                rw [this] at hlisted; cases hlisted
      have hfreeO : freeO ops j E (msk E listed) = true := msk_freeO E listed j hun (fun e he hd => by
        cases hle : listed.getD e true with
        | false => rfl
        | true =>
          have := hcl j e (Nat.lt_of_lt_of_le (k3 e he) k1) hle hd
          rw [← getD_tf (by omega), hun] at this
          cases this)
      have hdone : doneE ops j E (msk E listed) = true := msk_done E listed j (fun e he hd => by
        obtain ⟨d, hd1, hd2, rfl⟩ := (dirB_iff hoj).1 hd
        have := hdeps d hd1 hd2
        have hk := k3 _ he
        rwa [← getD_tf (by omega)] at this)
      have hfree : freeE ops j E (msk E listed) = true := by unfold freeE; rw [hfreeO, hdone]; rfl
      cases hqj : isQ q j with
      | true =>
        have hq' : q = some j := by
          unfold isQ at hqj
          cases q with
          | none => cases hqj
          | some p => simp only at hqj; rw [Nat.eq_of_beq_eq_true hqj]
        have hp := hP j oj hq' hoj (msk E listed) hfree (slotsS ops T τ0 τ' listed) hlook C f rd D kd
          (Region.linearise.go .any ops (fuel + (ops.size - T)) (t / (Region.ready .any ops listed).length) (listed.setIfInBounds j true) []) k
        refine runS11 hp ?_
        refine runS_weak (fun fs w ρ hf hR => ⟨ρ, ?_, hR⟩) (hpan (by rw [hq']; rfl) (msk E listed) (j :: Region.linearise.go .any ops (fuel + (ops.size - T)) (t / (Region.ready .any ops listed).length) (listed.setIfInBounds j true) []))
        obtain ⟨fr, m, rfl, hfr, hm⟩ := l2_cons hf
        refine .cons ⟨hfr.fn, hfr.size, fun t => ?_, hfr.todo, hfr.rd, hfr.defs, hfr.kind, hfr.mode⟩ hm
        have h1 := hfr.slots t
        show RV _ _ _ (leftS ops τ0 t) _
        cases hdt : dstsIn ops.toList t with
        | true =>
          have h3 : leftS ops τ0 t = .bad := by unfold leftS; rw [hdt]
          rw [h3]
          exact .bad
        | false =>
          have h2 : slotsS ops T τ0 τ' listed t = τ0 t := by
            unfold slotsS
            cases hu : unl ops T listed t with
            | true => rfl
            | false => exact hout t hdt
          have h3 : leftS ops τ0 t = τ0 t := by unfold leftS; rw [hdt]
          rw [h3, ← h2]
          exact h1
      | false =>
        obtain ⟨x, hx, hxd⟩ := hS j oj hjT hoj hqj (hlate c)
        have hsim := hx (msk E listed) hfree (slotsS ops T τ0 τ' listed) hlook C f rd D kd
          (Region.linearise.go .any ops (fuel + (ops.size - T)) (t / (Region.ready .any ops listed).length) (listed.setIfInBounds j true) []) k
        rw [← msk_set] at hsim
        refine runS11 hsim ?_
        have hsl : updO (slotsS ops T τ0 τ' listed) oj.dst x = slotsS ops T τ0 τ' (listed.setIfInBounds j true) := by
          funext t
          have hdj : dstAt ops j = oj.dst := by simp [dstAt, hoj]
          by_cases hd : oj.dst = some t
          · rw [hd]
            show upd _ t x t = _
            rw [upd_eq, if_pos rfl]
            unfold slotsS
            cases hu : unl ops T (listed.setIfInBounds j true) t with
            | false => exact (hxd t hd).symm
            | true =>
              obtain ⟨i, a, b, d⟩ := unl_iff.1 hu
              rw [getD_set] at b
              by_cases hij : i = j
              · rw [if_pos hij] at b; cases b
              · exact absurd (d.trans hd.symm) (b3 i a hij (by rw [hd]; rfl))
          · rw [updO_other _ (fun e => hd e)]
            unfold slotsS
            have : unl ops T listed t = unl ops T (listed.setIfInBounds j true) t := by
              rw [Bool.eq_iff_iff, unl_iff, unl_iff]
              constructor
              · rintro ⟨i, a, b, d⟩
                refine ⟨i, a, ?_, d⟩
                rw [getD_set, if_neg (fun e => hd (by rw [← hdj, ← e, d]))]
                exact b
              · rintro ⟨i, a, b, d⟩
                refine ⟨i, a, ?_, d⟩
                rw [getD_set] at b
                by_cases hij : i = j
                · rw [if_pos hij] at b; cases b
                · rwa [if_neg hij] at b
            rw [this]
        rw [hsl]
        refine runS_anyG hok hq hS hP hfin hout hpan fuel (listed.setIfInBounds j true) (by simp [hsz]) (fun i a b => ?_) (fun i hqi => ?_) (fun c' i a b => ?_) (fun i m hm hl hd => ?_) ?_ _
        · rw [getD_set, if_neg (by omega)]; exact h1 i a b
        · rw [getD_set, if_neg (fun e => by rw [hqi, e] at hqj; simp [isQ, Nat.beq_refl] at hqj)]; exact h2 i hqi
        · rw [getD_set, if_neg (fun e => by subst e; rw [hlate c'] at b; cases b)]; exact h3 c' i a b
        · have hi' : listed.getD i false = true := by
            rw [getD_set] at hl
            by_cases hmj : m = j
            · subst hmj
              obtain ⟨e, he, hb, rfl⟩ := (dirB_iff hoj).1 hd
              exact hdeps e he hb
            · rw [if_neg hmj] at hl
              exact hcl i m hm hl hd
          by_cases his : i < listed.size
          · rw [← getD_tf (by simpa using his), getD_set]
            rw [← getD_tf his] at hi'
            rw [hi']
            split <;> rfl
          · rw [show listed.getD i false = false by simp [Array.getD_eq_getD_getElem?, his]] at hi'
            cases hi'
        · have := cntB_set (g := fun i => !listed.getD i true) (g' := fun i => !(listed.setIfInBounds j true).getD i true) (j := j) (fun i hij => by simp only [getD_set, if_neg hij]) (by simp [hun]) (by simp [getD_set]) T hjT
          omega

theorem runS_drawG (T : Nat) (E : List Nat) (A : List Bool → List AO) (q : Option Nat) {id c : Nat} (hm : P.follows .mixedOrders = true) (hok : okG ops T E = true) (hqT : (match q with | some j => Nat.blt j T | none => true) = true)
    (hl : LexG P n E A A2 ch q c ops 0 (ops.toList.take T) τ τ') (har : A (E.map fun _ => false) = ar)
    (hfin : q = none → RunS P f0 C (⟨f, n, τ', .inRegion ops (List.range' T (ops.size - T)) :: k, rd, D, kd, .run⟩ :: S) (A (E.map fun _ => true)) Q)
    (hpan : q.isSome = true → ∀ b tt, RunS P f0 C (⟨f, n, leftS ops τ, .inRegion ops tt :: k, rd, D, kd, .panicking ch⟩ :: S) (A2 b) Q) :
    RunS P f0 C (⟨f, n, τ, .code (.region id ops true) :: k, rd, D, kd, .run⟩ :: S) ar Q := by
  obtain ⟨k1, k2, k3, k4, k5⟩ := okG_spec hok
  have hqT' : ∀ j, q = some j → j < T := fun j hj => by rw [hj] at hqT; simpa using hqT
  have hget : ∀ (j : Nat), j < T → (ops.toList.take T)[j]? = ops[j]? := fun j hj => by rw [List.getElem?_take, if_pos hj]; simp
  have hat : ∀ (j : Nat) o, j < T → ops[j]? = some o → ∃ τj x, ((isQ q j = true ∧ PanG P n E A A2 ch ops j o τj) ∨ (isQ q j = false ∧ isLate ops q c j = true) ∨ (isQ q j = false ∧ OpG P n E A ops j o τj x)) ∧
      (∀ t, t ∈ o.looksAt ops → τ' t = τj t) ∧ ∀ d, o.dst = some d → τ' d = x := by
    intro j o hj ho
    obtain ⟨o', ho', b1, b2, b3⟩ := k4 j hj
    rw [ho] at ho'
    cases ho'
    obtain ⟨τj, x, a1, a2, a3⟩ := lexG_get _ 0 τ hl j o (by rw [hget j hj]; exact ho)
    rw [Nat.zero_add] at a1
    refine ⟨τj, x, a1, fun t ht => a2 t fun m o' hm ho' hd => ?_, a3 fun m o' hm ho' hs => ?_⟩
    · have hmT : m < T := by have := (List.getElem?_eq_some_iff.1 ho').1; simp at this; omega
      rw [hget m hmT] at ho'
      obtain ⟨e, he, hb, rfl⟩ := (dirB_iff ho).1 (b2 t ht m hmT (by simp [dstAt, ho', hd]))
      have := b1 e he hb
      omega
    · have hmT : m < T := by have := (List.getElem?_eq_some_iff.1 ho').1; simp at this; omega
      rw [hget m hmT] at ho'
      have := b3 m hmT (by omega) hs
      simpa [dstAt, ho'] using this
  have hall := runS_anyG (P := P) (f0 := f0) (C := C) (S := S) (f := f) (n := n) (rd := rd) (D := D) (kd := kd) (k := k) (Q := Q) (τ0 := τ) (τ' := τ') (c := c) (q := q) (A := A) (A2 := A2) (ch := ch) hok hqT' (fun j o hj ho h1 h2 => by
      obtain ⟨τj, x, a1, a2, a3⟩ := hat j o hj ho
      rcases a1 with ⟨b, _⟩ | ⟨_, b⟩ | ⟨_, b⟩
      · rw [h1] at b; cases b
      · rw [h2] at b; cases b
      · exact ⟨x, b.congr a2, a3⟩)
    (fun j o hj ho => by
      obtain ⟨τj, x, a1, a2, a3⟩ := hat j o (hqT' j hj) ho
      have hq : isQ q j = true := by rw [hj]; simp [isQ, Nat.beq_refl]
      rcases a1 with ⟨_, b⟩ | ⟨b, _⟩ | ⟨b, _⟩
      · exact b.congr a2
      · rw [hq] at b; cases b
      · rw [hq] at b; cases b) hfin (fun t ht => lexG_out _ 0 τ hl t fun o ho => dstsIn_no ht o (List.mem_of_mem_take ho)) hpan T (Array.replicate ops.size false) (by simp) (fun j _ hj => by simp [Array.getD_eq_getD_getElem?, hj])
    (fun j hj => by have := hqT' j hj; simp [Array.getD_eq_getD_getElem?, show j < ops.size by omega]) (fun c' j hj _ => by simp [Array.getD_eq_getD_getElem?, show j < ops.size by omega]) (fun i j hj hl => by simp [Array.getD_eq_getD_getElem?, hj] at hl) (by
      have : ∀ T', T' ≤ ops.size → cntB (fun i => !(Array.replicate ops.size false).getD i true) T' = T' := by
        intro T'
        induction T' with
        | zero => intro _; rfl
        | succ T' ih =>
          intro h
          rw [cntB, ih (by omega)]
          have : (Array.replicate ops.size false).getD T' true = false := by simp [Array.getD_eq_getD_getElem?, show T' < ops.size by omega]
          simp [this]
      exact this T k1)
  have hs0 : slotsS ops T τ τ' (Array.replicate ops.size false) = τ := by
    funext t
    unfold slotsS
    cases hu : unl ops T (Array.replicate ops.size false) t with
    | true => rfl
    | false =>
      refine lexG_out _ 0 τ hl t fun o ho hd => ?_
      obtain ⟨j, hj⟩ := List.mem_iff_getElem?.1 ho
      have hjT : j < T := by have := (List.getElem?_eq_some_iff.1 hj).1; simp at this; omega
      rw [hget j hjT] at hj
      have : unl ops T (Array.replicate ops.size false) t = true := unl_iff.2 ⟨j, hjT, by simp [Array.getD_eq_getD_getElem?, show j < ops.size by omega], by simp [dstAt, hj, hd]⟩
      rw [hu] at this
      cases this
  have hm0 : msk E (Array.replicate ops.size false) = E.map fun _ => false := by
    unfold msk
    exact List.map_congr_left fun e he => by have := k3 e he; simp [Array.getD_eq_getD_getElem?, show e < ops.size by omega]
  rw [show T + (ops.size - T) = ops.size by omega, hs0, hm0, har] at hall
  intro fs cs w ρ hfs hR
  obtain ⟨fr, m, rfl, hf, hmm⟩ := l2_cons hfs
  obtain ⟨y, k', h0, h1, h2⟩ := l2_cons hf.todo
  cases itemR_code h1
  obtain ⟨r1, r2⟩ := hR.draw
  let fr1 := fr.atR ⟨fr.tmps, fr.defers⟩ (.inRegion ops (Region.linearise.go .any ops ops.size (w.tape w.drawn (.order fr.fn id)) (Array.replicate ops.size false) []) :: k')
  have hf2 := hf.mono r2 (Compat.refl _)
  obtain ⟨e, w', fr', s, a1, a2, a3⟩ := hall (w.tape w.drawn (.order fr.fn id)) (fr1 :: m) cs { w with drawn := w.drawn + 1 } ρ (.cons ⟨hf.fn, hf.size, hf2.slots, .cons .inRegion h2, hf.rd, hf2.defs, hf.kind, rfl⟩ (frames_mono r2 (Compat.refl _) hmm)) r1
  refine ⟨e, w', fr', .head ?_ s, a1, a2, a3⟩
  have := stepR_region_draw (P := P) (b := fr) (a := ⟨fr.tmps, fr.defers⟩) (k := k') (cs := m ++ cs) (w := w) (ops := ops) (id := id)
  rw [← h0, atR_self hf.mode] at this
  simp only [Region.schedule, hm, Bool.true_or, if_true] at this
  exact this
end
end Go.Iron

/- Iron: how walks go through regions that draw their order: steps of each kind. -/
namespace Go.Iron
variable [Globs]
section
variable {P : Program} {f0 : FuncId} {C : Cx} {S S' : List AF} {ar0 ar1 ar ar' : List AO} {Q : Out → List AO → Prop} {ops : Array Oper}
variable {f n s T : Nat} {τ τ' : Nat → AV} {rd : Option Nat} {D : List AV} {kd : CallKind} {k : List Item} {I : TI} {J : TJ} {E : List Nat} {A A2 : List Bool → List AO} {ch : List PanicEntry} {q : Option Nat}

omit [Globs] in
theorem says_slc {sz m m' : Nat} {nl : Option Bool} {r r' : Nat → List AV} (hm : m' = m) (h : ∀ i, i < m → r' i = r i) : Says (.slc sz nl m r) (.slc sz nl m' r') := fun w O ρ v hv => by
  subst hm
  obtain ⟨A, cap, g, e, h1, h2, h3, h4, h5, h6, h7⟩ := rv_slc hv
  subst e
  exact .slc rfl h1 h2 h3 (fun i hi => by rw [h i hi]; exact h4 i hi) h5 g (fun i j x a hi hx ha => h6 i j x a hi (by rw [← h i hi]; exact hx) ha) (fun i j x hi hx => h7 i j x hi (by rw [← h i hi]; exact hx))
inductive SaysL : List AV → List AV → Prop
  | nil : SaysL [] []
  | cons {x y l m} : Says x y → SaysL l m → SaysL (x :: l) (y :: m)
omit [Globs] in
theorem SaysL.len {l m : List AV} (h : SaysL l m) : l.length = m.length := by induction h <;> simp [*]
omit [Globs] in
theorem SaysL.get {l m : List AV} (h : SaysL l m) : ∀ {i : Nat} {x y : AV}, l[i]? = some x → m[i]? = some y → Says x y := by
  induction h with
  | nil => intro i x y hx; simp at hx
  | cons h1 _ ih =>
    intro i x y hx hy
    cases i with
    | zero => simp at hx hy; subst hx; subst hy; exact h1
    | succ i => exact ih (by simpa using hx) (by simpa using hy)
theorem callT_says {g : FuncId} {xs ys : List AV} {Q : Out → List AO → Prop} (hs : SaysL xs ys) (h : CallT P g ys ar Q) : CallT P g xs ar Q := fun w ρ X vs hR hl hv =>
  h w ρ X vs hR (by rw [hl, hs.len]) fun i y v hy hvi => by
    have hi : i < xs.length := by rw [hs.len]; exact (List.getElem?_eq_some_iff.1 hy).1
    exact (hs.get (by simp [hi]) hy) _ _ _ _ (hv i xs[i] v (by simp [hi]) hvi)

theorem runS_cut (R : (Nat → AV) → List AO → Prop) {c : Code}
    (h : (∀ τ' ar', R τ' ar' → RunS P f0 C (⟨f, n, τ', k, rd, D, kd, .run⟩ :: S) ar' Q) → RunS P f0 C (⟨f, n, τ, .code c :: k, rd, D, kd, .run⟩ :: S) ar Q)
    (hr : ∀ τ' ar', R τ' ar' → RunS P f0 C (⟨f, n, τ', k, rd, D, kd, .run⟩ :: S) ar' Q) : RunS P f0 C (⟨f, n, τ, .code c :: k, rd, D, kd, .run⟩ :: S) ar Q :=
  h hr

theorem runS_hole (hr : RunS P f0 C S (ar ++ [.hole]) Q) : RunS P f0 C S ar Q :=
  runS_weak (fun fs w ρ h1 h2 => by
    obtain ⟨r1, r2, r3⟩ := h2.add (o := .hole) (L := ⟨0, .tuple #[]⟩) (w' := w) (Nat.le_refl _) (fun _ _ => rfl) rfl rfl rfl (fun b hb => by simp [Loc.has, Loc.more, Loc.blk] at hb)
      (fun hp => ⟨rfl, rfl⟩)
    exact ⟨_, frames_mono r2 r3 h1, r1⟩) hr

theorem op_makeSliceH {o : Oper} {t e : TypeId} {x y : Operand} {k1 k2 : IntKind} {l : Int} {sz bytes id : Nat} {z0 : List AV} [he : ElT P t e] [hz : ZeroT P e z0 bytes] (ho : o.op = .makeSlice t x y) (hx : evA τ x = .val (.int k1 l)) (hy : evA τ y = .val (.int k2 l))
    (hsz : z0.length = sz) (h0 : (decide (0 ≤ l) && decide (l * bytes ≤ 140737488355328)) = true)
    (hob : nth ar id = some .hole) (har : setN ar id (.row e sz 1 l.toNat (fun _ => z0)) = some ar') : OpStep P τ ar o (.row id 1) ar' := by
  intro C a w ρ hR hS
  rw [nth_eq] at hob
  obtain ⟨hid, rfl⟩ := setN_spec _ _ _ _ har
  have hid' : id < ρ.length := by rw [hR.len]; exact (List.getElem?_eq_some_iff.1 hob).1
  obtain ⟨L, hL⟩ : ∃ L, ρ[id]? = some L := ⟨ρ[id], by simp [hid']⟩
  obtain ⟨l0, l1⟩ := hR.obj id _ L hob hL
  have hno : ∀ b, ¬ L.has b := fun b hb => by simp [Loc.has, Loc.more, Loc.blk, l1] at hb
  obtain ⟨i, z, z1, z2, z3, z4, z4', z5, z6, z7, z8⟩ := hz.all
  simp only [Bool.and_eq_true, decide_eq_true_eq] at h0
  obtain ⟨h0, hb⟩ := h0
  obtain ⟨m, rfl⟩ : ∃ m : Nat, l = m := ⟨l.toNat, by omega⟩
  have hb' : (m * bytes : Nat) ≤ 140737488355328 := by rw [← Int.natCast_mul] at hb; omega
  have hmax : m ≤ 140737488355328 := by
    have : m * 1 ≤ m * bytes := Nat.mul_le_mul_left _ z7
    omega
  have hcells := made_cells (w := w) (O := Ow C ρ ar) (ρ := ρ) (n := m) z5 z6 z8 hsz
  have hrc : RowC w (Ow C ρ ar) ρ sz m (fun _ => z0) ((Array.range (m * sz)).map (z.cells[· % z.cells.size]!)).toList := by
    refine ⟨by simp, fun i hi => hsz, fun i j x v hi hx hv => ?_⟩
    have hj : j < z0.length := (List.getElem?_eq_some_iff.1 hx).1
    exact hcells.2 (i * sz + j) x v (by rw [← hsz]; rw [rep_get z0 m i j hi hj]; exact hx) hv
  obtain ⟨r1, r2, r3⟩ := hR.putF (o' := .row e sz 1 m (fun _ => z0)) (L' := ⟨1, .slice (some ⟨w.heap.size, 0, none⟩) m m⟩) (w' := w.alloc (.cells ((Array.range (m * sz)).map (z.cells[· % z.cells.size]!)) e)) hob hL (fun b hb => absurd hb (hno b)) (by simp) (fun k hk _ => heap_alloc_old w _ hk) rfl rfl rfl
    (fun b hb => by simp [Loc.has, Loc.more, Loc.blk] at hb; omega) (by rw [l0]; exact Nat.zero_le _) (fun e => by rw [l0] at e; cases e)
    (fun hp hc => ⟨rfl, _, by
      have := World.ownsRow_lit (base := 0) (e := e) (size := sz) w ((Array.range (m * sz)).map (z.cells[· % z.cells.size]!)) m (Nat.zero_le _) (by simp only [maxLen]; omega) (by simp)
      simpa using this, hrc.mono hp hc⟩)
  refine ⟨.value (.slice (some ⟨w.heap.size, 0, none⟩) m m), _, _, _, ?_, .inl rfl, r1, r3, r2, ?_⟩
  · have hbz : (i.bytes : Int) * (m : Int) ≤ 281474976710656 := by
      have : ((bytes * m : Nat) : Int) ≤ 281474976710656 := by rw [Nat.mul_comm]; omega
      rw [z3]; rwa [Int.natCast_mul] at this
    have hr := run_make (P := P) w t e i z he.h z1 z2 k1 k2 (m : Int) (m : Int) (by omega) (Int.le_refl _) hbz (by omega)
    have hsize : i.size = sz := by rw [z4, hsz]
    simp only [execOp, ho, eval_val hS hx, eval_val hS hy, Sem.run_bind, hr, Result.andThen_ok, Int.toNat_natCast, hsize, madeCells]
    rfl
  · exact .row (L := ⟨1, .slice (some ⟨w.heap.size, 0, none⟩) m m⟩) (by rw [List.getElem?_set_self hid']) (Nat.le_refl _) rfl (fun _ => rfl)

theorem op_buildSliceH {o : Oper} {t e : TypeId} {len sz bytes id : Nat} {parts : Array (Nat × Operand)} {z0 cs : List AV} {as : List (Nat × List AV)} [he : ElT P t e] [hz : ZeroT P e z0 bytes] (ho : o.op = .buildSlice t len parts)
    (hsz : z0.length = sz) (has : partsA τ parts.toList = some as) (hc : fillA (rowPl sz) (rep z0 len) as = some cs) (hle : Nat.ble (len * sz) 16777216 = true)
    (hob : nth ar id = some .hole) (har : setN ar id (.row e sz 1 len (chunk sz cs)) = some ar') : OpStep P τ ar o (.row id 1) ar' := by
  intro C a w ρ hR hS
  rw [nth_eq] at hob
  obtain ⟨hid, rfl⟩ := setN_spec _ _ _ _ har
  have hid' : id < ρ.length := by rw [hR.len]; exact (List.getElem?_eq_some_iff.1 hob).1
  obtain ⟨L, hL⟩ : ∃ L, ρ[id]? = some L := ⟨ρ[id], by simp [hid']⟩
  obtain ⟨l0, l1⟩ := hR.obj id _ L hob hL
  have hno : ∀ b, ¬ L.has b := fun b hb => by simp [Loc.has, Loc.more, Loc.blk, l1] at hb
  obtain ⟨i, z, z1, z2, z3, z4, z4', z5, z6, z7, z8⟩ := hz.all
  have hle' : len * sz ≤ 16777216 := by simpa [Nat.ble_eq] using hle
  have hmax : len ≤ maxLen := by
    have : len * 1 ≤ len * sz := Nat.mul_le_mul_left _ (by omega)
    simp only [maxLen]
    omega
  obtain ⟨vs', h1, h2⟩ := fill_ok (w := w) (O := Ow C ρ ar) (ρ := ρ) (place := rowPl sz) as _ (rep z0 len) cs ((Array.range (len * sz)).map (z.cells[· % z.cells.size]!)) (made_cells z5 z6 z8 hsz) (partsA_ok hS _ _ has) hc
  have hcl : cs.length = len * sz := by
    have key : ∀ (as : List (Nat × List AV)) (c0 cs : List AV), fillA (rowPl sz) c0 as = some cs → cs.length = c0.length := by
      intro as
      induction as with
      | nil => intro c0 cs h; simp [fillA] at h; rw [h]
      | cons p as ih =>
        intro c0 cs h
        obtain ⟨i, ys⟩ := p
        simp only [fillA, rowPl, Nat.mul_eq] at h
        cases hl : ys.length.beq sz with
        | false => simp [hl] at h
        | true =>
          simp only [hl] at h
          cases hsp : splice c0 (i * sz) ys with
          | none => simp [hsp] at h
          | some c1 =>
            simp only [hsp] at h
            obtain ⟨hs1, hs2⟩ := splice_spec _ _ _ _ hsp
            rw [ih _ _ h, hs2]
            simp; omega
    rw [key as _ _ hc, rep_length, hsz]
  have hrc : RowC w (Ow C ρ ar) ρ sz len (chunk sz cs) vs'.toList := by
    refine ⟨by rw [h2.1, hcl], fun i hi => ?_, fun i j x v hi hx hv => ?_⟩
    · have : i * sz + sz ≤ len * sz := by rw [← Nat.succ_mul]; exact Nat.mul_le_mul_right _ hi
      simp [chunk, hcl]; omega
    · have hx' : cs[i * sz + j]? = some x := by
        simp only [chunk, Nat.mul_eq] at hx
        rw [List.getElem?_take] at hx
        split at hx
        · rw [List.getElem?_drop] at hx; exact hx
        · cases hx
      exact h2.2 _ x v hx' hv
  have hvl : vs'.size = len * sz := by have := h2.1; rw [hcl] at this; simpa using this
  obtain ⟨r1, r2, r3⟩ := hR.putF (o' := .row e sz 1 len (chunk sz cs)) (L' := ⟨1, .slice (some ⟨w.heap.size, 0, none⟩) len len⟩) (w' := w.alloc (.cells vs' e)) hob hL (fun b hb => absurd hb (hno b)) (by simp) (fun k hk _ => heap_alloc_old w _ hk) rfl rfl rfl
    (fun b hb => by simp [Loc.has, Loc.more, Loc.blk] at hb; omega) (by rw [l0]; exact Nat.zero_le _) (fun e => by rw [l0] at e; cases e)
    (fun hp hc => ⟨rfl, _, by
      have := World.ownsRow_lit (base := 0) (e := e) (size := sz) w vs' len (Nat.zero_le _) hmax hvl
      simpa using this, hrc.mono hp hc⟩)
  refine ⟨.value (.slice (some ⟨w.heap.size, 0, none⟩) len len), _, _, _, ?_, .inl rfl, r1, r3, r2, ?_⟩
  · have hparts : (parts.map fun x => (x.1, a.eval x.2)).toList = parts.toList.map fun p => (p.1, a.eval p.2) := by simp
    have hsize : i.size = sz := by rw [z4, hsz]
    have h1' : Instr.fill (fun i => some (i * sz, sz)) ((Array.range (len * sz)).map (z.cells[· % z.cells.size]!)) (parts.toList.map fun p => (p.1, a.eval p.2)) = some vs' := h1
    have hn : ¬ (16777216 < len * i.size) := by rw [hsize]; omega
    by_cases h0 : len * sz = 0
    · have hcs0 : (Array.range (len * sz)).map (z.cells[· % z.cells.size]!) = #[] := by rw [h0]; simp
      rw [hcs0] at h1'
      simp only [execOp, ho, Instr.buildSlice, Sem.run_bind, run_underlying he.h, Result.andThen_ok, sizeOf, typeInfo, run_program, z1, Sem.run_pure, hsize, hparts, h0]
      have hr0 : ∀ (f : Nat → Value), (Array.range 0).map f = #[] := fun f => by simp
      simp [hr0, h1', newRow]
    · simp only [execOp, ho, Instr.buildSlice, Sem.run_bind, run_underlying he.h, Result.andThen_ok, sizeOf, typeInfo, run_program, z1, Sem.run_pure, hsize, hparts]
      simp [h0, show ¬ 16777216 < len * sz by omega, zeroValue, typeInfo, z1, z2, h1', newRow]
  · exact .row (L := ⟨1, .slice (some ⟨w.heap.size, 0, none⟩) len len⟩) (by rw [List.getElem?_set_self hid']) (Nat.le_refl _) rfl (fun _ => rfl)

theorem sim_callU {i : Nat} {rest : List Nat} {o : Oper} {fo : Operand} {xs : Array Operand} {ts : Array TypeId} {g : FuncId} {caps as : List AV} {gn : Func} {gc : Code} [hF : Fun P g gn gc] {d : Nat} {r : AV}
    {j : Nat} {want bb : Bool} {oc : Option Bool} (ho : ops[i]? = some o) (hg : o.guard = some (j, want)) (hb : GuardA n τ ops j oc bb) (hop : o.op = .call { callee := .value fo, args := xs, argTypes := ts })
    {l : List Nat} (hl : tmpsOf (fo :: xs.toList) = l) (hgk : GOKs (condOf oc bb want) τ l) (hfo : evA (opT l τ) fo = .fn (.func g) caps) (hdst : o.dst = some d) (hd : Nat.blt d n = true)
    (has : xs.toList.map (evA (opT l τ)) ++ caps = as) (hu : underAll as = true) (h : condOf oc bb want = true → CallT P g as [] (fun out A => out = .ret r ∧ A = []))
    : SimT P C [⟨f, n, τ, .inRegion ops (i :: rest) :: k, rd, D, kd, .run⟩] ar [⟨f, n, upd τ d (.opt (condOf oc bb want) r), .inRegion ops rest :: k, rd, D, kd, .run⟩] ar := by
  intro ts' w ρ cs hts hR
  obtain ⟨fr, m, rfl, hf, hn'⟩ := l2_cons hts
  cases hn'
  obtain ⟨k', h2, h0⟩ := top_op hf
  have hw := wanted_of (a := ⟨fr.tmps, fr.defers⟩) hf.slots hf.size hg hb
  have hdn' : d < fr.tmps.size := by rw [hf.size]; simpa [Nat.blt_eq] using hd
  cases hc : condOf oc bb want with
  | false =>
    refine ⟨[fr.atR ((⟨fr.tmps, fr.defers⟩ : Act).put o.dst undef) (.inRegion ops rest :: k')], w, ρ, Steps.one ?_, .cons ⟨hf.fn, by show (((⟨fr.tmps, fr.defers⟩ : Act).put o.dst undef).tmps).size = n; rw [put_tmps_size]; exact hf.size, ?_, .cons .inRegion h2, hf.rd, ?_, hf.kind, rfl⟩ .nil, hR, Compat.refl _, Pres.refl _ _⟩
    · have hst := stepR_op_skip (P := P) (b := fr) (a := ⟨fr.tmps, fr.defers⟩) (k := k') (cs := cs) (w := w) (ops := ops) (i := i) (rest := rest) (by simp [ho, hw, hc])
      simp only [ho, Option.bind_some] at hst
      rw [← h0, atR_self hf.mode] at hst
      exact hst
    · rw [hdst]
      exact slots_put (a := ⟨fr.tmps, fr.defers⟩) hf.slots hdn' (.opt (fun h' => by cases h') (fun _ => rfl))
    · show L2 _ D ((⟨fr.tmps, fr.defers⟩ : Act).put o.dst undef).defers
      rw [put_defers]
      exact hf.defs
  | true =>
    have hsl := opT_slots (w := w) (tmps := fr.tmps) hc hgk hf.slots
    have hfv := evA_ok (a := ⟨fr.tmps, fr.defers⟩) hsl fo
    rw [show evA (opT l τ) fo = _ from hfo] at hfv
    obtain ⟨cvs, hfo', hcl, hcr⟩ := rv_fn hfv
    obtain ⟨hl', hv⟩ := args_rv (a := ⟨fr.tmps, fr.defers⟩) hsl xs hcl hcr
    rw [show xs.toList.map (evA (opT l τ)) ++ caps = as from has] at hl' hv
    obtain ⟨e, w', fr', ⟨out, ρ', rfl, q1, q2, q3, q4⟩, hst, hfr, hlv⟩ := callT_pure (C := C) (ar := ar) (Q0 := fun out => out = .ret r) (h hc) hu hR hl' hv (fr :: cs)
    have hgo := stepGR_op (P := P) (b := fr) (a := ⟨fr.tmps, fr.defers⟩) (k := k') (cs := cs) (w := w) (rest := rest) ho (hw.trans hc)
    rw [Oper.semAt_eq _ _ _ (fun c h => by rw [hop] at h; cases h), ← h0, atR_self hf.mode] at hgo
    have henter : step P (lone fr cs w) = .next (lone (Frame.enter P g (xs.map (⟨fr.tmps, fr.defers⟩ : Act).eval ++ cvs) .normal) (fr :: cs) w) :=
      step_lone_go (by rw [hgo]; simp [stepG.apply, call_enter (P := P) (w := w) hF.h hF.b hF.nm hop hfo', h0])
    cases e with
    | returned v =>
      refine ⟨[fr.finish v], w', ρ', .head henter (Steps.trans hst (.one (step_leave_returned hlv))), .cons (fin_ok (τ2 := upd τ d (.opt true r)) (t2 := .inRegion ops rest :: k) (d := some d) (x := .opt true r) (by simp [finA, nth_eq, ho, hdst, updO]) hd (hf.mono q3 q2) (.opt (fun _ => q4) (fun h' => by cases h'))) .nil, q1, q2, q3⟩
    | panicked chain => exact q4.elim
    | outgrown => exact q4.elim

theorem opJ_callU {i : Nat} {o : Oper} {fo : Operand} {xs : Array Operand} {ts : Array TypeId} {g : FuncId} {caps as : List AV} {gn : Func} {gc : Code} [hF : Fun P g gn gc] {d : Nat} {r : AV}
    {j : Nat} {want bb : Bool} {oc : Option Bool} (ho : ops[i]? = some o) (hg : o.guard = some (j, want)) (hb : GuardA n τ ops j oc bb) (hop : o.op = .call { callee := .value fo, args := xs, argTypes := ts })
    {l : List Nat} (hl : tmpsOf (fo :: xs.toList) = l) (hgk : GOKs (condOf oc bb want) τ l) (hfo : evA (opT l τ) fo = .fn (.func g) caps) (hdst : o.dst = some d) (hd : Nat.blt d n = true)
    (has : xs.toList.map (evA (opT l τ)) ++ caps = as) (hu : underAll as = true) (h : condOf oc bb want = true → CallT P g as [] (fun out A => out = .ret r ∧ A = []))
    : OpJ P n ar ops i o τ (.opt (condOf oc bb want) r) := by
  intro τ2 h2 C f rd D kd rest k
  have hLk : ∀ t, t ∈ l → τ2 t = τ t := fun t ht => h2 t (looks_of (by rw [hop]; simpa [Op.operands, Call.operands, hl] using ht))
  have hgd : ∀ dj oj, ops[j]? = some oj → oj.dst = some dj → τ2 dj = τ dj := fun dj oj h1 h3 => h2 dj (by
    unfold Oper.looksAt
    refine List.mem_append_right _ ?_
    simp [hg, h1, h3])
  have hT : opT l τ2 = opT l τ := by
    funext t
    unfold opT
    cases hm : memN t l with
    | true => dsimp only; rw [hLk t (memN_iff.1 hm)]
    | false => rfl
  have hb2 : GuardA n τ2 ops j oc bb := by
    cases hb with
    | @v oj dj b h1 h2' h3 h4 => exact .v h1 h2' h3 (by rw [hgd _ _ h1 h2']; exact h4)
    | @o oj dj b c h1 h2' h3 h4 => exact .o h1 h2' h3 (by rw [hgd _ _ h1 h2']; exact h4)
  have key : ∀ l', GOKs (condOf oc bb want) τ l' → (∀ t, t ∈ l' → τ2 t = τ t) → GOKs (condOf oc bb want) τ2 l' := by
    intro l' h'
    induction h' with
    | nil => exact fun _ => .nil
    | @cons t' l h1 _ ih => exact fun hk => .cons (by rw [hk t' (by simp)]; exact h1) (ih (fun t ht => hk t (List.mem_cons_of_mem _ ht)))
  have hgk2 := key l hgk hLk
  have := sim_callU (P := P) (C := C) (f := f) (n := n) (rd := rd) (D := D) (kd := kd) (k := k) (rest := rest) (ar := ar) (τ := τ2) ho hg hb2 hop hl hgk2 (by rw [hT]; exact hfo) hdst hd (by rw [hT]; exact has) hu h
  rw [hdst]
  exact this

theorem lexj_callU {i : Nat} {o : Oper} {l0 : List Oper} {fo : Operand} {xs : Array Operand} {ts : Array TypeId} {g : FuncId} {caps as : List AV} {gn : Func} {gc : Code} [hF : Fun P g gn gc] {d : Nat} {r : AV}
    {j : Nat} {want bb : Bool} {oc : Option Bool} (ho : ops[i]? = some o) (hg : o.guard = some (j, want)) (hb : GuardA n τ ops j oc bb) (hop : o.op = .call { callee := .value fo, args := xs, argTypes := ts })
    {l : List Nat} (hl : tmpsOf (fo :: xs.toList) = l) (hgk : GOKs (condOf oc bb want) τ l) (hfo : evA (opT l τ) fo = .fn (.func g) caps) (hdst : o.dst = some d) (hd : Nat.blt d n = true)
    (has : xs.toList.map (evA (opT l τ)) ++ caps = as) (hu : underAll as = true) (h : condOf oc bb want = true → CallT P g as [] (fun out A => out = .ret r ∧ A = []))
    (hr : LexJ P n ar ops (Nat.succ i) l0 (upd τ d (.opt (condOf oc bb want) r)) τ') : LexJ P n ar ops i (o :: l0) τ τ' :=
  ⟨_, opJ_callU ho hg hb hop hl hgk hfo hdst hd has hu h, by rw [hdst]; exact hr⟩

def execH (I : TI) (J : TJ) (τ : Nat → AV) (ar : List AO) (id : Nat) : Op → Option (AV × List AO × Ob)
  | .makeMap t r => match lk J.maps t with
    | none => none
    | some (kk, _) => match r with
      | some _ => none
      | none => match nth ar id with
        | some .hole => match setN ar id (.map 1 kk []) with
          | some ar' => some (.row id 1, ar', [])
          | none => none
        | _ => none
  | .buildSlice t len parts => match lk I.el t with
    | none => none
    | some e => match lk I.zero e with
      | none => none
      | some (z0, _) => match partsA τ parts.toList with
        | none => none
        | some as => match fillA (rowPl z0.length) (rep z0 len) as with
          | none => none
          | some cs => match Nat.ble (len * z0.length) 16777216 with
            | false => none
            | true => match nth ar id with
              | some .hole => match setN ar id (.row e z0.length 1 len (chunk z0.length cs)) with
                | some ar' => some (.row id 1, ar', [])
                | none => none
              | _ => none
  | .makeSlice t x y => match lk I.el t with
    | none => none
    | some e => match lk I.zero e with
      | none => none
      | some (z0, bytes) => match evA τ x with
        | .val (.int _ l) => match evA τ y with
          | .val (.int _ l') => match nth ar id with
            | some .hole => match setN ar id (.row e z0.length 1 l.toNat (fun _ => z0)) with
              | some ar' => some (.row id 1, ar', [(true, decide (l' = l)), (true, decide (0 ≤ l) && decide (l * bytes ≤ 140737488355328))])
              | none => none
            | _ => none
          | _ => none
        | _ => none
  | _ => none
theorem execH_ok [hI : Inf P I] [hJ : Inf2 P J] {o : Oper} {x : AV} {ob : Ob} {id : Nat} (h : execH I J τ ar id o.op = some (x, ar', ob)) (hob : Obs ob) : OpStep P τ ar o x ar' := by
  unfold execH at h
  split at h
  · rename_i t r ho
    split at h
    · cases h
    rename_i kk e hmp
    split at h
    · cases h
    · split at h
      · rename_i hh
        split at h
        · rename_i ar1 har; cases h; exact op_makeMapH ho hh har
        · cases h
      · cases h
  · rename_i t len parts ho
    split at h
    · cases h
    rename_i e hel
    have hE : ElT P t e := hI.el.mem _ (lk_mem hel)
    split at h
    · cases h
    rename_i z0 bytes hz
    have hZ : ZeroT P e z0 bytes := hI.zero.mem _ (lk_mem hz)
    split at h
    · cases h
    rename_i as has
    split at h
    · cases h
    rename_i cs hcs
    split at h
    · cases h
    rename_i hle
    split at h
    · rename_i hh
      split at h
      · rename_i ar1 har; cases h; exact op_buildSliceH ho rfl has hcs hle hh har
      · cases h
    · cases h
  · rename_i t xo yo ho
    split at h
    · cases h
    rename_i e hel
    have hE : ElT P t e := hI.el.mem _ (lk_mem hel)
    split at h
    · cases h
    rename_i z0 bytes hz
    have hZ : ZeroT P e z0 bytes := hI.zero.mem _ (lk_mem hz)
    split at h
    · rename_i k1 l hx
      split at h
      · rename_i k2 l' hy
        split at h
        · rename_i hh
          split at h
          · rename_i ar1 har
            cases h
            have h1 : l' = l := of_decide_eq_true (hob (true, _) (.head _) rfl)
            subst h1
            exact op_makeSliceH ho hx hy rfl (hob (true, _) (.tail _ (.head _)) rfl) hh har
          · cases h
        · cases h
      · cases h
    · cases h
  · cases h

inductive HK where
  | hole (id : Nat)
  | store
def stepG (I : TI) (J : TJ) (τ : Nat → AV) (ar : List AO) (o : Oper) : Option HK → Option (AV × List AO × Ob)
  | some (.hole id) => execH I J (opR (tmpsOf o.op.operands.toList) τ) ar id o.op
  | some .store => execMM I J (opR (tmpsOf o.op.operands.toList) τ) ar o.op
  | none => match execQ I J (opR (tmpsOf o.op.operands.toList) τ) ar o.op with
    | some (x, ob) => some (x, ar, ob)
    | none => none
theorem stepG_ok [hI : Inf P I] [hJ : Inf2 P J] {i : Nat} {o : Oper} {x : AV} {ob : Ob} {hid : Option HK} (ho : ops[i]? = some o) (hg : o.guard = none) (hd : dstOK n o.dst = true) (h : stepG I J τ ar o hid = some (x, ar', ob)) (hob : Obs ob) : SimOp P n ops i o τ x ar ar' := by
  unfold stepG at h
  split at h
  · exact simOp_step ho hg (dst_blt hd) rfl (execH_ok h hob)
  · exact simOp_step ho hg (dst_blt hd) rfl (execMM_ok h hob)
  · split at h
    · rename_i y ob' hx
      cases h
      exact simOp_step ho hg (dst_blt hd) rfl (execQ_ok hx hob)
    · cases h

omit [Globs] in
theorem setE_outO {i : Nat} : ∀ {E : List Nat} {b : List Bool}, memN i E = false → freeO ops i E b = true → setE i E b = b
  | [], [], _, _ => rfl
  | [], _ :: _, _, h => by simp [freeO] at h
  | _ :: _, [], _, h => by simp [freeO] at h
  | e :: E, v :: b, hm, h => by
    unfold memN at hm
    cases he : Nat.beq i e with
    | true => rw [he] at hm; cases hm
    | false =>
      rw [he] at hm
      have he' : Nat.beq e i = false := by
        cases h' : Nat.beq e i with
        | false => rfl
        | true => rw [Nat.eq_of_beq_eq_true h', Nat.beq_refl] at he; cases he
      unfold freeO at h
      unfold setE
      rw [he']
      simp only [List.cons.injEq, true_and]
      refine setE_outO hm ?_
      revert h
      cases (Nat.beq e i || dirB ops i e) <;> cases v <;> first | exact fun h => h | (intro h; cases h)
omit [Globs] in
theorem setE_out {i : Nat} {E : List Nat} {b : List Bool} (hm : memN i E = false) (h : freeE ops i E b = true) : setE i E b = b := setE_outO hm (freeE_O h)

theorem lexg_nil {c i : Nat} : LexG P n E A A2 ch q c ops i [] τ τ := rfl
theorem lexg_g [hI : Inf P I] [hJ : Inf2 P J] (hid : Option HK) {c i : Nat} {o : Oper} {l : List Oper} {x : AV} (hm : AllM ops i E (fun b => ∃ ob, stepG I J τ (A b) o hid = some (x, A (setE i E b), ob) ∧ Obs ob)) (ho : ops[i]? = some o) (hg : o.guard = none) (hd : dstOK n o.dst = true) (hq : isQ q i = false)
    (hr : LexG P n E A A2 ch q c ops (i + 1) l (updO τ o.dst x) τ') : LexG P n E A A2 ch q c ops i (o :: l) τ τ' :=
  ⟨x, .inr (.inr ⟨hq, fun b hb => by obtain ⟨ob, h1, h2⟩ := allM_spec hm b hb; exact stepG_ok ho hg hd h1 h2⟩), hr⟩
theorem lexg_d [hI : Inf P I] [hJ : Inf2 P J] (hid : Option HK) {c i : Nat} {o : Oper} {l : List Oper} {x : AV} (hm : AllD ops i E (fun b => ∃ ob, stepG I J τ (A b) o hid = some (x, A (setE i E b), ob) ∧ Obs ob)) (ho : ops[i]? = some o) (hg : o.guard = none) (hd : dstOK n o.dst = true) (hq : isQ q i = false)
    (hr : LexG P n E A A2 ch q c ops (i + 1) l (updO τ o.dst x) τ') : LexG P n E A A2 ch q c ops i (o :: l) τ τ' :=
  ⟨x, .inr (.inr ⟨hq, fun b hb => by obtain ⟨ob, h1, h2⟩ := allD_spec hm b (freeE_O hb) (freeE_D hb); exact stepG_ok ho hg hd h1 h2⟩), hr⟩
theorem lexg_late {c i : Nat} {o : Oper} {l : List Oper} (hq : isQ q i = false) (hla : isLate ops q c i = true) (hr : LexG P n E A A2 ch q c ops (i + 1) l (updO τ o.dst .bad) τ') : LexG P n E A A2 ch q c ops i (o :: l) τ τ' :=
  ⟨.bad, .inr (.inl ⟨hq, hla⟩), hr⟩
theorem lexg_call {c i : Nat} {o : Oper} {l : List Oper} {fo : Operand} {xs : Array Operand} {ts : Array TypeId} {g : FuncId} {caps as : List AV} {gn : Func} {gc : Code} [Fun P g gn gc] {r : AV}
    (ho : ops[i]? = some o) (hg : o.guard = none) (hop : o.op = .call { callee := .value fo, args := xs, argTypes := ts }) (hfo : evA τ fo = .fn (.func g) caps) (hd : dstOK n o.dst = true)
    (has : xs.toList.map (evA τ) ++ caps = as) (hu : AV.unders 0 as = true) (hq : isQ q i = false) (hE : memN i E = false) (h : CallT P g as [] (fun out A => out = .ret r ∧ A = []))
    (hr : LexG P n E A A2 ch q c ops (i + 1) l (updO τ o.dst r) τ') : LexG P n E A A2 ch q c ops i (o :: l) τ τ' :=
  ⟨r, .inr (.inr ⟨hq, fun b hb => by rw [setE_out hE hb]; exact opJ_call ho hg hop hfo hd has hu h⟩), hr⟩
theorem lexg_pan {c i : Nat} {o : Oper} {l : List Oper} {fo : Operand} {xs : Array Operand} {ts : Array TypeId} {g : FuncId} {caps as : List AV} {gn : Func} {gc : Code} [Fun P g gn gc] {t : TypeId} {x : AV} {v : Value}
    (ho : ops[i]? = some o) (hg : o.guard = none) (hop : o.op = .call { callee := .value fo, args := xs, argTypes := ts }) (hfo : evA τ fo = .fn (.func g) caps)
    (has : xs.toList.map (evA τ) ++ caps = as) (hu : AV.unders 0 as = true) (hq : isQ q i = true) (hv : clV x = some v) (h : CallT P g as [] (fun out A => out = .pan (.ifc t x) ∧ A = []))
    (hr : LexG P n E A A [{ v := .iface t v, recovered := false }] q c ops (i + 1) l (updO τ o.dst .bad) τ') : LexG P n E A A [{ v := .iface t v, recovered := false }] q c ops i (o :: l) τ τ' :=
  ⟨.bad, .inl ⟨hq, fun b hb τ2 h2 C f rd D kd rest k => by
    have hmem : ∀ t, Operand.tmp t ∈ (fo :: xs.toList) → τ2 t = τ t := fun t ht => h2 t (by
      unfold Oper.looksAt
      refine List.mem_append_left _ ?_
      rw [List.mem_filterMap]
      refine ⟨.tmp t, ?_, rfl⟩
      rw [hop]
      simpa [Op.operands, Call.operands] using ht)
    refine sim_contractP (A := []) (A' := []) (B := A b) rfl ho hg hop (by rw [evA_agree hmem (by simp)]; exact hfo) ?_ hu .nil rfl hv h
    rw [← has]
    congr 1
    exact List.map_congr_left fun x hx => evA_agree hmem (by simp [hx])⟩, hr⟩
end
end Go.Iron

/- Objects that are of no more use. -/
namespace Go.Iron
variable [Globs]
section
variable {P : Program} {f0 : FuncId} {C : Cx} {S : List AF} {ar ar' : List AO} {Q : Out → List AO → Prop}
end
end Go.Iron

/- Guarded calls that are lent objects; operations told by hand. -/
namespace Go.Iron
variable [Globs]
section
variable {P : Program} {f0 : FuncId} {C : Cx} {S : List AF} {ar ar' : List AO} {Q : Out → List AO → Prop}
variable {f n : Nat} {τ : Nat → AV} {k : List Item} {rd : Option Nat} {D : List AV} {kd : CallKind} {ops : Array Oper}

theorem runS_op (x : AV) {i : Nat} {rest : List Nat} {o : Oper} (ho : ops[i]? = some o) (hg : o.guard = none) (hd : dstOK n o.dst = true) (hs : OpStep P τ ar o x ar)
    (hr : RunS P f0 C (⟨f, n, updO τ o.dst x, .inRegion ops rest :: k, rd, D, kd, .run⟩ :: S) ar Q) : RunS P f0 C (⟨f, n, τ, .inRegion ops (i :: rest) :: k, rd, D, kd, .run⟩ :: S) ar Q :=
  runS11 (sim_op ho hg (fun d h => by rw [h] at hd; exact hd) hs) hr
end
end Go.Iron

/- The first objects stay, and one more. -/
namespace Go.Iron
variable [Globs]
section
variable {P : Program} {f0 : FuncId} {C : Cx} {S : List AF} {ar ar' : List AO} {Q : Out → List AO → Prop}
variable {f n : Nat} {τ : Nat → AV} {rd : Option Nat} {D : List AV} {kd : CallKind}
end
end Go.Iron

/- Iron: regions that draw their order, with operations under a guard that is decided. -/
namespace Go.Iron
variable [Globs]
section
variable {P : Program} {f0 : FuncId} {C : Cx} {S S' : List AF} {ar ar' : List AO} {Q : Out → List AO → Prop} {ops : Array Oper}
variable {f n s : Nat} {τ τ' : Nat → AV} {rd : Option Nat} {D : List AV} {kd : CallKind} {k : List Item} {I : TI} {J : TJ} {E : List Nat} {A A2 : List Bool → List AO} {ch : List PanicEntry} {q : Option Nat}

theorem sim_opT {i : Nat} {rest : List Nat} {o oj : Oper} {x : AV} {j dj : Nat} {want b : Bool} (ho : ops[i]? = some o) (hg : o.guard = some (j, want)) (hj : ops[j]? = some oj) (hdj : oj.dst = some dj) (hjn : Nat.blt dj n = true) (hb : τ dj = .val (.bool b)) (hbw : (b == want) = true)
    (hd : ∀ d, o.dst = some d → Nat.blt d n = true) (hs : OpStep P τ ar o x ar') :
    SimT P C [⟨f, n, τ, .inRegion ops (i :: rest) :: k, rd, D, kd, .run⟩] ar [⟨f, n, updO τ o.dst x, .inRegion ops rest :: k, rd, D, kd, .run⟩] ar' := by
  intro ts w ρ cs hts hR
  obtain ⟨fr, m, rfl, hf, hn⟩ := l2_cons hts
  cases hn
  obtain ⟨k', h2, h0⟩ := top_op hf
  have hw : Region.wanted o (yielded ops fr.tmps) = true := by
    rw [wanted_of_guard (a := ⟨fr.tmps, fr.defers⟩) hf.slots hg hj hdj (by rw [Nat.blt_eq] at hjn; show dj < fr.tmps.size; rw [hf.size]; exact hjn) hb, hbw]
  obtain ⟨r, v, w', ρ', hr, hv, hR', hc, hp, hx⟩ := hs C ⟨fr.tmps, fr.defers⟩ w ρ hR hf.slots
  refine ⟨[fr.atR ((⟨fr.tmps, fr.defers⟩ : Act).put o.dst v) (.inRegion ops rest :: k')], w', ρ', Steps.one ?_, .cons ⟨hf.fn, by show (((⟨fr.tmps, fr.defers⟩ : Act).put o.dst v).tmps).size = n; rw [put_tmps_size]; exact hf.size, ?_, .cons .inRegion (h2.mono fun _ _ => ItemR.mono hc), hf.rd.mono hc, ?_, hf.kind, rfl⟩ .nil, hR', hc, hp⟩
  · have := step_op_value (P := P) (b := fr) (k := k') (cs := cs) (rest := rest) ho hw hr hv
    rw [← h0, atR_self hf.mode] at this
    exact this
  · exact slots_dst (a := ⟨fr.tmps, fr.defers⟩) (hf.slots.mono hp hc) (fun t ht => by have := hd t ht; rw [Nat.blt_eq] at this; show t < fr.tmps.size; rw [hf.size]; exact this) hx
  · show L2 _ D ((⟨fr.tmps, fr.defers⟩ : Act).put o.dst v).defers
    rw [put_defers]
    exact hf.defs.mono fun _ _ => DR.mono hp hc
omit [Globs] in
theorem guard_looks {o oj : Oper} {j dj : Nat} {want : Bool} (hg : o.guard = some (j, want)) (hj : ops[j]? = some oj) (hdj : oj.dst = some dj) : dj ∈ o.looksAt ops := by
  unfold Oper.looksAt
  refine List.mem_append_right _ ?_
  simp [hg, hj, hdj]
theorem simOp_stepT {i : Nat} {o oj : Oper} {x : AV} {l : List Nat} {j dj : Nat} {want b : Bool} (ho : ops[i]? = some o) (hg : o.guard = some (j, want)) (hj : ops[j]? = some oj) (hdj : oj.dst = some dj) (hjn : Nat.blt dj n = true) (hb : τ dj = .val (.bool b)) (hbw : (b == want) = true)
    (hdn : ∀ d, o.dst = some d → Nat.blt d n = true) (hl : tmpsOf o.op.operands.toList = l) (hs : OpStep P (opR l τ) ar o x ar') : SimOp P n ops i o τ x ar ar' := by
  intro τ2 h2 C f rd D kd rest k
  exact sim_opT ho hg hj hdj hjn ((h2 dj (guard_looks hg hj hdj)).trans hb) hbw hdn (hs.slots (opR_slots (fun t ht => h2 t (looks_of (by rw [hl]; exact ht)))))
theorem stepG_okT [hI : Inf P I] [hJ : Inf2 P J] {i : Nat} {o oj : Oper} {x : AV} {ob : Ob} {hid : Option HK} {j dj : Nat} {want b : Bool} (ho : ops[i]? = some o) (hg : o.guard = some (j, want)) (hj : ops[j]? = some oj) (hdj : oj.dst = some dj) (hjn : Nat.blt dj n = true) (hb : τ dj = .val (.bool b)) (hbw : (b == want) = true)
    (hd : dstOK n o.dst = true) (h : stepG I J τ ar o hid = some (x, ar', ob)) (hob : Obs ob) : SimOp P n ops i o τ x ar ar' := by
  unfold stepG at h
  split at h
  · exact simOp_stepT ho hg hj hdj hjn hb hbw (dst_blt hd) rfl (execH_ok h hob)
  · exact simOp_stepT ho hg hj hdj hjn hb hbw (dst_blt hd) rfl (execMM_ok h hob)
  · split at h
    · rename_i y ob' hx
      cases h
      exact simOp_stepT ho hg hj hdj hjn hb hbw (dst_blt hd) rfl (execQ_ok hx hob)
    · cases h
theorem lexg_gT [hI : Inf P I] [hJ : Inf2 P J] (hid : Option HK) {c i : Nat} {o oj : Oper} {l : List Oper} {x : AV} {j dj : Nat} {want b : Bool} (hbw : (b == want) = true) (hm : AllM ops i E (fun b => ∃ ob, stepG I J τ (A b) o hid = some (x, A (setE i E b), ob) ∧ Obs ob)) (ho : ops[i]? = some o)
    (hg : o.guard = some (j, want)) (hj : ops[j]? = some oj) (hdj : oj.dst = some dj) (hjn : Nat.blt dj n = true) (hb : τ dj = .val (.bool b)) (hd : dstOK n o.dst = true) (hq : isQ q i = false)
    (hr : LexG P n E A A2 ch q c ops (i + 1) l (updO τ o.dst x) τ') : LexG P n E A A2 ch q c ops i (o :: l) τ τ' :=
  ⟨x, .inr (.inr ⟨hq, fun b hb' => by obtain ⟨ob, h1, h2⟩ := allM_spec hm b hb'; exact stepG_okT ho hg hj hdj hjn hb hbw hd h1 h2⟩), hr⟩
theorem simT_un {i : Nat} {rest : List Nat} {d : Nat} {c : Bool} {r : AV} (hc : c = true) (hdn : Nat.blt d n = true)
    (h : SimT P C [⟨f, n, τ, .inRegion ops (i :: rest) :: k, rd, D, kd, .run⟩] ar [⟨f, n, upd τ d (.opt c r), .inRegion ops rest :: k, rd, D, kd, .run⟩] ar) :
    SimT P C [⟨f, n, τ, .inRegion ops (i :: rest) :: k, rd, D, kd, .run⟩] ar [⟨f, n, upd τ d r, .inRegion ops rest :: k, rd, D, kd, .run⟩] ar := by
  intro ts w ρ cs hts hR
  obtain ⟨ts', w', ρ', st, hts', hR', hcm, hp⟩ := h ts w ρ cs hts hR
  refine ⟨ts', w', ρ', st, ?_, hR', hcm, hp⟩
  obtain ⟨fr, m, rfl, hf, hn⟩ := l2_cons hts'
  refine .cons ⟨hf.fn, hf.size, fun t => ?_, hf.todo, hf.rd, hf.defs, hf.kind, hf.mode⟩ hn
  have h1 := hf.slots t
  show RV _ _ _ (upd τ d r t) _
  have h1' : RV _ _ _ (upd τ d (.opt c r) t) _ := h1
  rw [upd_eq] at h1' ⊢
  by_cases ht : t = d
  · rw [if_pos ht] at h1' ⊢
    cases h1' with
    | opt a b => exact a hc
  · rw [if_neg ht] at h1' ⊢
    exact h1'
theorem lexg_callT {c i : Nat} {o oj : Oper} {l : List Oper} {fo : Operand} {xs : Array Operand} {ts : Array TypeId} {g : FuncId} {caps as : List AV} {gn : Func} {gc : Code} [Fun P g gn gc] {r : AV} {j dj d : Nat} {want b : Bool} (hbw : (b == want) = true)
    (ho : ops[i]? = some o) (hg : o.guard = some (j, want)) (hj : ops[j]? = some oj) (hdj : oj.dst = some dj) (hjn : Nat.blt dj n = true) (hb : τ dj = .val (.bool b)) (hop : o.op = .call { callee := .value fo, args := xs, argTypes := ts })
    {l' : List Nat} (hl : tmpsOf (fo :: xs.toList) = l') (hgk : GOKs (condOf none b want) τ l') (hfo : evA (opT l' τ) fo = .fn (.func g) caps) (hd : o.dst = some d) (hdn : Nat.blt d n = true)
    (has : xs.toList.map (evA (opT l' τ)) ++ caps = as) (hu : underAll as = true) (hq : isQ q i = false) (hE : memN i E = false) (h : CallT P g as [] (fun out A => out = .ret r ∧ A = []))
    (hr : LexG P n E A A2 ch q c ops (i + 1) l (upd τ d r) τ') : LexG P n E A A2 ch q c ops i (o :: l) τ τ' :=
  ⟨r, .inr (.inr ⟨hq, fun b' hb' => by
    rw [setE_out hE hb']
    have hJ := opJ_callU (ar := A b') ho hg (.v hj hdj hjn hb) hop hl hgk hfo hd hdn has hu (fun _ => h)
    intro τ2 h2 C f rd D kd rest k
    have := hJ τ2 h2 C f rd D kd rest k
    rw [hd] at this ⊢
    exact simT_un hbw hdn this⟩), by rw [hd]; exact hr⟩
end
end Go.Iron

/- Iron: operations of a drawn region that are passed over, of whose result something is told. -/
namespace Go.Iron
variable [Globs]
section
variable {P : Program} {f0 : FuncId} {C : Cx} {S S' : List AF} {ar ar' : List AO} {Q : Out → List AO → Prop} {ops : Array Oper}
variable {f n s : Nat} {τ τ' : Nat → AV} {rd : Option Nat} {D : List AV} {kd : CallKind} {k : List Item} {I : TI} {J : TJ} {E : List Nat} {A A2 : List Bool → List AO} {ch : List PanicEntry} {q : Option Nat}
end
end Go.Iron

/- Iron: one new object in a region that draws its order. -/
namespace Go.Iron
variable [Globs]
section
variable {P : Program} {f0 : FuncId} {C : Cx} {S S' : List AF} {ar0 ar1 ar ar' : List AO} {Q : Out → List AO → Prop} {ops : Array Oper}
variable {f n s T : Nat} {τ τ' : Nat → AV} {rd : Option Nat} {D : List AV} {kd : CallKind} {k : List Item} {I : TI} {J : TJ} {E : List Nat} {A A2 : List Bool → List AO} {ch : List PanicEntry} {q : Option Nat}

theorem lexg_a [hI : Inf P I] {c i id bytes : Nat} {o : Oper} {l : List Oper} {e : TypeId} {z0 : List AV} (hop : o.op = .alloc e) (hz : lk I.zero e = some (z0, bytes)) (hm : AllM ops i E (fun b => snocN (A b) (.box e z0) = some (A (setE i E b), id))) (ho : ops[i]? = some o) (hg : o.guard = none) (hd : dstOK n o.dst = true) (hq : isQ q i = false)
    (hr : LexG P n E A A2 ch q c ops (i + 1) l (updO τ o.dst (.ptr id 0 0)) τ') : LexG P n E A A2 ch q c ops i (o :: l) τ τ' :=
  haveI : ZeroT P e z0 bytes := hI.zero.mem _ (lk_mem hz)
  ⟨.ptr id 0 0, .inr (.inr ⟨hq, fun b hb => simOp_step ho hg (dst_blt hd) rfl (op_alloc hop (allM_spec hm b hb))⟩), hr⟩
theorem op_allocH {τ : Nat → AV} {ar ar' : List AO} {o : Oper} {e : TypeId} {cs : List AV} {bytes sz id : Nat} [hz : ZeroT P e cs bytes] (ho : o.op = .alloc e) (hsz : cs.length = sz)
    (hob : nth ar id = some .hole) (har : setN ar id (.row e sz 1 1 (fun _ => cs)) = some ar') : OpStep P τ ar o (.elt id 1 sz 0 0) ar' := by
  intro C a w ρ hR hS
  rw [nth_eq] at hob
  obtain ⟨hid, rfl⟩ := setN_spec _ _ _ _ har
  have hid' : id < ρ.length := by rw [hR.len]; exact (List.getElem?_eq_some_iff.1 hob).1
  obtain ⟨L, hL⟩ : ∃ L, ρ[id]? = some L := ⟨ρ[id], by simp [hid']⟩
  obtain ⟨l0, l1⟩ := hR.obj id _ L hob hL
  have hno : ∀ b, ¬ L.has b := fun b hb => by simp [Loc.has, Loc.more, Loc.blk, l1] at hb
  obtain ⟨i, z, z1, z2, z3, z4, z4', z5, z6, z7, z8⟩ := hz.all
  have hc : Cells w (Ow C ρ ar) ρ cs z.cells.toList := by
    subst z5
    refine ⟨by simp, fun j x v hx hv => ?_⟩
    simp only [List.getElem?_map, hv, Option.map_some, Option.some.injEq] at hx
    subst hx
    exact ⟨.val, List.all_eq_true.1 z6 v (List.mem_of_getElem? hv)⟩
  have hrc : RowC w (Ow C ρ ar) ρ sz 1 (fun _ => cs) z.cells.toList := by
    refine ⟨by simp [z4', hsz], fun i hi => hsz, fun i j x v hi hx hv => ?_⟩
    have hi0 : i = 0 := by omega
    subst hi0
    rw [Nat.zero_mul, Nat.zero_add] at hv
    exact hc.2 j x v hx hv
  obtain ⟨r1, r2, r3⟩ := hR.putF (o' := .row e sz 1 1 (fun _ => cs)) (L' := ⟨1, .slice (some ⟨w.heap.size, 0, none⟩) 1 1⟩) (w' := w.alloc (.cells z.cells e)) hob hL (fun b hb => absurd hb (hno b)) (by simp) (fun k hk _ => heap_alloc_old w _ hk) rfl rfl rfl
    (fun b hb => by simp [Loc.has, Loc.more, Loc.blk] at hb; omega) (by rw [l0]; exact Nat.zero_le _) (fun e => by rw [l0] at e; cases e)
    (fun hp hc => ⟨rfl, _, by
      have := World.ownsRow_lit (base := 0) (e := e) (size := sz) w z.cells 1 (Nat.zero_le _) (by simp only [maxLen]; omega) (by simp [z4', hsz])
      simpa using this, hrc.mono hp hc⟩)
  refine ⟨.value (.pointer (some ⟨w.heap.size, 0, none⟩)), _, _, _, ?_, .inl rfl, r1, r3, r2, ?_⟩
  · simp [execOp, ho, Instr.alloc, newVar, newRow, zeroValue, typeInfo, z1, z2]
  · refine .elt (L := ⟨1, .slice (some ⟨w.heap.size, 0, none⟩) 1 1⟩) (by rw [List.getElem?_set_self hid']) (Nat.le_refl _) rfl (fun _ => ⟨w.heap.size, rfl, by simp⟩)
theorem lexg_b [hI : Inf P I] (id : Nat) {c i bytes : Nat} {o : Oper} {l : List Oper} {e : TypeId} {z0 : List AV} (hop : o.op = .alloc e) (hz : lk I.zero e = some (z0, bytes)) (hm : AllM ops i E (fun b => nth (A b) id = some .hole ∧ setN (A b) id (.row e z0.length 1 1 (fun _ => z0)) = some (A (setE i E b)))) (ho : ops[i]? = some o) (hg : o.guard = none) (hd : dstOK n o.dst = true) (hq : isQ q i = false)
    (hr : LexG P n E A A2 ch q c ops (i + 1) l (updO τ o.dst (.elt id 1 z0.length 0 0)) τ') : LexG P n E A A2 ch q c ops i (o :: l) τ τ' :=
  haveI : ZeroT P e z0 bytes := hI.zero.mem _ (lk_mem hz)
  ⟨.elt id 1 z0.length 0 0, .inr (.inr ⟨hq, fun b hb => simOp_step ho hg (dst_blt hd) rfl (op_allocH hop rfl (allM_spec hm b hb).1 (allM_spec hm b hb).2)⟩), hr⟩
end
end Go.Iron

/- Builders: pointers turned to unsafe ones and back, a text out of a row of bytes. -/
namespace Go.Iron
variable [Globs]
section
variable {P : Program} {C : Cx} {τ : Nat → AV} {ar ar' : List AO}
theorem box_at {w : World} {ρ : List Loc} (hR : RelA C ρ ar w) {id off : Nat} {e : TypeId} {cs : List AV} {v : Value} (hv : RV w (Ow C ρ ar) ρ (.ptr id 0 off) v) (hob : ar[id]? = some (.box e cs)) :
    ∃ b vs, v = .pointer (some ⟨b, off, none⟩) ∧ w.heap[b]? = some (.cells vs e (0, 0)) ∧ vs.size = cs.length := by
  obtain ⟨L, e1, e2, e3, e4⟩ := rv_ptr hv
  obtain ⟨h0, b, vs, a1, a2, a3⟩ := hR.obj id _ L hob e1
  obtain ⟨b', hb, hv'⟩ := e4 h0.symm
  rw [Loc.blk, a1] at hb
  cases hb
  exact ⟨b, vs, hv', a2, by have := a3.1; simpa using this⟩
theorem runS_opA {P : Program} {f0 : FuncId} {C : Cx} {S : List AF} {ar ar' : List AO} {Q : Out → List AO → Prop} {f n : Nat} {τ : Nat → AV} {k : List Item} {rd : Option Nat} {D : List AV} {kd : CallKind} {ops : Array Oper} (x : AV) {i : Nat} {rest : List Nat} {o : Oper} (ho : ops[i]? = some o) (hg : o.guard = none) (hd : dstOK n o.dst = true) (hs : OpStep P τ ar o x ar')
    (hr : RunS P f0 C (⟨f, n, updO τ o.dst x, .inRegion ops rest :: k, rd, D, kd, .run⟩ :: S) ar' Q) : RunS P f0 C (⟨f, n, τ, .inRegion ops (i :: rest) :: k, rd, D, kd, .run⟩ :: S) ar Q :=
  runS11 (sim_op ho hg (fun d h => by rw [h] at hd; exact hd) hs) hr
end
end Go.Iron

/- Methods bound to their receivers, as values. -/
namespace Go.Iron
variable [Globs]
omit [Globs] in
theorem rv_bnd {w : World} {O : Nat → Prop} {ρ : List Loc} {f : Fn} {cs : List AV} {v : Value} (h : RV w O ρ (.bnd f cs) v) :
    ∃ vs : Array Value, v = .func f vs #[] ∧ cs.length = vs.size ∧ ∀ (i : Nat) x u, cs[i]? = some x → vs[i]? = some u → RV w O ρ x u := by
  generalize e : AV.bnd f cs = x at h
  cases h <;> cases e
  exact ⟨_, rfl, by assumption, by assumption⟩
section
variable {P : Program} {f0 : FuncId} {C : Cx} {S : List AF} {ar ar' : List AO} {Q : Out → List AO → Prop}
variable {f n : Nat} {τ : Nat → AV} {k : List Item} {rd : Option Nat} {D : List AV} {kd : CallKind} {ops : Array Oper}
theorem op_makeBound {o : Oper} {g : Fn} {first : Array Operand} {cs : List AV} (ho : o.op = .makeFunc g first #[]) (he : evAs τ first.toList = cs) : OpStep P τ ar o (.bnd g cs) ar :=
  opStep_same fun C a w ρ hR h => by
    subst he
    refine ⟨.func g (first.map a.eval) #[], by simp [execOp, ho, Instr.makeFunc], .bnd (by simp [evAs_eq]) (fun i x v hx hv => ?_)⟩
    simp only [evAs_eq, List.getElem?_map, Array.getElem?_toList, Array.getElem?_map] at hx hv
    cases hc : first[i]? with
    | none => simp [hc] at hx
    | some z => simp [hc] at hx hv; subst hx; subst hv; exact evA_ok h z
end
end Go.Iron

/- Iron: a slice of which nobody says whether it is nil. -/
namespace Go.Iron
variable [Globs]
variable {P : Program}

theorem callT_nl {g : FuncId} {sz m : Nat} {r : Nat → List AV} {xs : List AV} {ar : List AO} {Q : Out → List AO → Prop} (h : ∀ b, CallT P g (.slc sz (some b) m r :: xs) ar Q) : CallT P g (.slc sz none m r :: xs) ar Q := fun w ρ X vs hR hl hv => by
  have h0 : 0 < vs.size := by rw [hl]; simp
  obtain ⟨A, cap, gg, e, h1, h2, h3, h4, h5, h6, h7⟩ := rv_slc (hv 0 _ _ rfl (Array.getElem?_eq_getElem h0))
  refine h A.isNone w ρ X vs hR hl (fun i x v hx hvi => ?_)
  cases i with
  | zero =>
    simp only [List.getElem?_cons_zero, Option.some.injEq] at hx
    subst hx
    rw [Array.getElem?_eq_getElem h0, Option.some.injEq] at hvi
    subst hvi
    rw [e]
    exact .slc rfl h1 h2 (fun b hb => by cases hb; rfl) h4 h5 gg h6 h7
  | succ i => exact hv (i + 1) x v hx hvi
end Go.Iron

/- Iron: pointers that are not nil, pointers that are. -/
namespace Go.Iron
variable [Globs]
section
variable {P : Program} {C : Cx} {τ : Nat → AV} {ar ar' : List AO}
theorem op_ptrNe {o : Oper} {x y : Operand} {s t T : TypeId} {id : Nat} {e : TypeId} {cs : List AV} (hs : P.underlying s = some (.pointer T)) (ho : o.op = .binOp .neq s x y t) (hx : evA τ x = .ptr id 0 0) (hy : evA τ y = .val (.pointer none)) (hob : nth ar id = some (.box e cs)) : OpStep P τ ar o (.val (.bool true)) ar :=
  opStep_same fun C a w ρ hR h => by
    have hv := evA_ok h x
    rw [hx] at hv
    have h2 := eval_val h hy
    rw [nth_eq] at hob
    obtain ⟨b, vs, e1, e2, e3⟩ := box_at hR hv hob
    have hg : (eqGuard .neq s x y (.pointer (some ⟨b, 0, none⟩)) (.pointer none)).run P w = .ok () w := by unfold eqGuard; rfl
    have hd : ∀ d : Nat, (Op.equalIn (d + 1) s (.pointer (some ⟨b, 0, none⟩)) (.pointer none)).run P w = .ok false w := fun d => by
      simp [Op.equalIn, run_underlying hs]
    have hr : (binOp .neq s (.pointer (some ⟨b, 0, none⟩)) (.pointer none)).run P w = .ok (.bool true) w := by
      simp only [binOp]
      simp [Op.equal, Op.maxDepth, hd 9999]
    exact ⟨.bool true, by simp only [execOp, ho, e1, h2, Sem.run_bind, hg, hr, Result.andThen_ok, Sem.run_pure], .val⟩
end
end Go.Iron
namespace Go.Iron
variable [Globs]
section
variable {P : Program} {C : Cx} {τ : Nat → AV} {ar ar' : List AO}
theorem op_alloc0 {o : Oper} {e : TypeId} {id : Nat} (hz : (P.info? e).map (fun i => i.zero) = some (some (.agg #[]))) (ho : o.op = .alloc e) (har : snocN ar (.box e []) = some (ar', id)) : OpStep P τ ar o (.ptr id 0 0) ar' := by
  intro C a w ρ hR hS
  obtain ⟨rfl, rfl⟩ := snocN_spec _ _ _ _ har
  obtain ⟨i, z1, z2⟩ := Option.map_eq_some_iff.1 hz
  have hc : Cells w (Ow C ρ ar) ρ [] (Value.agg #[]).cells.toList := ⟨rfl, fun j x v hx hv => by simp at hx⟩
  obtain ⟨h1, h2, h3⟩ := rel_box hR e hc
  refine ⟨.value (.pointer (some ⟨w.heap.size, 0, none⟩)), _, _, _, ?_, .inl rfl, h1, h3, h2, ?_⟩
  · simp [execOp, ho, Instr.alloc, newVar, newRow, zeroValue, typeInfo, z1, z2]
  · refine .ptr (L := ⟨0, .pointer (some ⟨w.heap.size, 0, none⟩)⟩) (by rw [List.getElem?_append_right (by rw [hR.len]; exact Nat.le_refl _)]; simp [hR.len]) (Nat.le_refl _) rfl fun _ => ⟨_, rfl, rfl⟩
end
end Go.Iron

/- Iron: values of structs without fields. -/
namespace Go.Iron
variable [Globs]
section
variable {P : Program} {C : Cx} {τ : Nat → AV} {ar ar' : List AO}
end
end Go.Iron

/- Calls of methods bound to their receivers, with arguments. -/
namespace Go.Iron
variable [Globs]
section
variable {P : Program} {f0 : FuncId} {C : Cx} {S : List AF} {ar ar' : List AO} {Q : Out → List AO → Prop}
variable {f n : Nat} {τ : Nat → AV} {k : List Item} {rd : Option Nat} {D : List AV} {kd : CallKind} {ops : Array Oper}
omit [Globs] in
theorem call_enterBA {o : Oper} {fo : Operand} {xs : Array Operand} {ts : Array TypeId} {a : Act} {g : FuncId} {gn : Func} {c : Code} {fvs : Array Value} {w : World} (hgn : P.funcs[g]? = some gn) (hb : gn.body = some c) (hnm : (gn.name == "runtime.NumGoroutine") = false)
    (hop : o.op = .call { callee := .value fo, args := xs, argTypes := ts }) (hfo : a.eval fo = .func (.func g) fvs #[]) : (execOp a.eval o).run P w = .ok (.enter g (fvs ++ xs.map a.eval)) w := by
  have hbe : gn.body ≠ none := by rw [hb]; simp
  have hnm' : gn.name ≠ "runtime.NumGoroutine" := by simpa using hnm
  simp [execOp, hop, resolve, hfo, Deferred.ofValue, invoke, callFunc, hgn, hnm', hbe]
omit [Globs] in
theorem bnd_args {w : World} {O : Nat → Prop} {ρ : List Loc} {τ : Nat → AV} {a : Act} {cs : List AV} {fvs : Array Value} {xs : Array Operand} (hcl : cs.length = fvs.size) (hcr : ∀ (i : Nat) x u, cs[i]? = some x → fvs[i]? = some u → RV w O ρ x u) (hx : ∀ z : Operand, RV w O ρ (evA τ z) (a.eval z)) :
    (cs ++ xs.toList.map (evA τ)).length = (fvs ++ xs.map a.eval).size ∧ ∀ (i : Nat) x u, (cs ++ xs.toList.map (evA τ))[i]? = some x → (fvs ++ xs.map a.eval)[i]? = some u → RV w O ρ x u := by
  refine ⟨by simp [hcl], fun i x u h1 h2 => ?_⟩
  by_cases hi : i < cs.length
  · rw [List.getElem?_append_left hi] at h1
    rw [Array.getElem?_append_left (by omega)] at h2
    exact hcr i x u h1 h2
  · rw [List.getElem?_append_right (by omega)] at h1
    rw [Array.getElem?_append_right (by omega), ← hcl] at h2
    simp only [List.getElem?_map, Array.getElem?_toList, Array.getElem?_map] at h1 h2
    cases hc : xs[i - cs.length]? with
    | none => simp [hc] at h1
    | some z => simp [hc] at h1 h2; subst h1; subst h2; exact hx z
theorem runS_callBA {i : Nat} {rest : List Nat} {o : Oper} {fo : Operand} {xs : Array Operand} {ts : Array TypeId} {g : FuncId} {cs as : List AV} {gn : Func} {c : Code} {r : AV} (ho : ops[i]? = some o) (hg : o.guard = none)
    (hop : o.op = .call { callee := .value fo, args := xs, argTypes := ts }) (hfo : evA τ fo = .bnd (.func g) cs) [hF : Fun P g gn c]
    (has : cs ++ xs.toList.map (evA τ) = as) (hu : AV.unders 0 as = true) (hd : dstOK n o.dst = true) (h : CallT P g as [] (fun out A1 => out = .ret r ∧ A1 = []))
    (hr : RunS P f0 C (⟨f, n, updO τ o.dst r, .inRegion ops rest :: k, rd, D, kd, .run⟩ :: S) ar Q) : RunS P f0 C (⟨f, n, τ, .inRegion ops (i :: rest) :: k, rd, D, kd, .run⟩ :: S) ar Q := by
  refine runS11 (A' := ⟨f, n, updO τ o.dst r, .inRegion ops rest :: k, rd, D, kd, .run⟩) (ar' := [] ++ ar) ?_ hr
  intro ts' w ρ cs' hts hR
  obtain ⟨fr, m, rfl, hf, hn'⟩ := l2_cons hts
  cases hn'
  obtain ⟨k', h2, h0⟩ := top_op hf
  have hfv := evA_ok (a := ⟨fr.tmps, fr.defers⟩) hf.slots fo
  rw [show evA τ fo = _ from hfo] at hfv
  obtain ⟨fvs, hfo', hcl, hcr⟩ := rv_bnd hfv
  obtain ⟨hcl2, hcr2⟩ := bnd_args (xs := xs) (a := ⟨fr.tmps, fr.defers⟩) hcl hcr (fun z => evA_ok hf.slots z)
  rw [has] at hcl2 hcr2
  have hcall := callT_frame (C := C) (A := []) (B := ar) (S := fun out A1 => out = .ret r ∧ A1 = []) (fun w ρ X vs a b c => (h w ρ X vs a b c).mono fun e w' hd => by
    obtain ⟨out, A1, ρ1, ⟨h1, rfl⟩, h2, h3⟩ := hd
    exact ⟨out, [], ρ1, ⟨⟨h1, rfl⟩, rfl⟩, h2, h3⟩) hu .nil hR hcl2.symm hcr2
  obtain ⟨e, w', fr', ⟨out, A1, ρ', ⟨rfl, rfl⟩, q1, q2, q3, q4⟩, hst, hfr, hlv⟩ := hcall (fr :: cs')
  have hgo := stepGR_op (P := P) (b := fr) (a := ⟨fr.tmps, fr.defers⟩) (k := k') (cs := cs') (w := w) (rest := rest) ho (by simp [Region.wanted, hg])
  rw [Oper.semAt_eq _ _ _ (fun c h => by rw [hop] at h; cases h), ← h0, atR_self hf.mode] at hgo
  have henter : step P (lone fr cs' w) = .next (lone (Frame.enter P g (fvs ++ xs.map (Act.eval ⟨fr.tmps, fr.defers⟩)) .normal) (fr :: cs') w) :=
    step_lone_go (by rw [hgo]; simp [stepG.apply, call_enterBA (P := P) (w := w) hF.h hF.b hF.nm hop hfo', h0])
  cases e with
  | returned v =>
    exact ⟨[fr.finish v], w', ρ', .head henter (Steps.trans hst (.one (step_leave_returned hlv))), .cons (fin_ok (τ2 := updO τ o.dst r) (t2 := .inRegion ops rest :: k) (d := o.dst) (by simp [finA, nth_eq, ho]) hd (hf.mono q3 q2) q4) .nil, q1, q2, q3⟩
  | panicked chain => exact q4.elim
  | outgrown => exact q4.elim
theorem runS_callBAP {i : Nat} {rest : List Nat} {o : Oper} {fo : Operand} {xs : Array Operand} {ts : Array TypeId} {g : FuncId} {cs as : List AV} {gn : Func} {c : Code} {t : TypeId} {x : AV} {v : Value} (ho : ops[i]? = some o) (hg : o.guard = none)
    (hop : o.op = .call { callee := .value fo, args := xs, argTypes := ts }) (hfo : evA τ fo = .bnd (.func g) cs) [hF : Fun P g gn c]
    (has : cs ++ xs.toList.map (evA τ) = as) (hu : AV.unders 0 as = true) (hv : clV x = some v) (h : CallT P g as [] (fun out A1 => out = .pan (.ifc t x) ∧ A1 = []))
    (hr : RunS P f0 C (⟨f, n, τ, .inRegion ops (i :: rest) :: k, rd, D, kd, .panicking [{ v := .iface t v, recovered := false }]⟩ :: S) ar Q) : RunS P f0 C (⟨f, n, τ, .inRegion ops (i :: rest) :: k, rd, D, kd, .run⟩ :: S) ar Q := by
  refine runS11 (A' := ⟨f, n, τ, .inRegion ops (i :: rest) :: k, rd, D, kd, .panicking [{ v := .iface t v, recovered := false }]⟩) (ar' := [] ++ ar) ?_ hr
  intro ts' w ρ cs' hts hR
  obtain ⟨fr, m, rfl, hf, hn'⟩ := l2_cons hts
  cases hn'
  obtain ⟨k', h2, h0⟩ := top_op hf
  have hfv := evA_ok (a := ⟨fr.tmps, fr.defers⟩) hf.slots fo
  rw [show evA τ fo = _ from hfo] at hfv
  obtain ⟨fvs, hfo', hcl, hcr⟩ := rv_bnd hfv
  obtain ⟨hcl2, hcr2⟩ := bnd_args (xs := xs) (a := ⟨fr.tmps, fr.defers⟩) hcl hcr (fun z => evA_ok hf.slots z)
  rw [has] at hcl2 hcr2
  have hcall := callT_frame (C := C) (A := []) (B := ar) (S := fun out A1 => out = .pan (.ifc t x) ∧ A1 = []) (fun w ρ X vs a b c => (h w ρ X vs a b c).mono fun e w' hd => by
    obtain ⟨out, A1, ρ1, ⟨h1, rfl⟩, h2, h3⟩ := hd
    exact ⟨out, [], ρ1, ⟨⟨h1, rfl⟩, rfl⟩, h2, h3⟩) hu .nil hR hcl2.symm hcr2
  obtain ⟨e, w', fr', ⟨out, A1, ρ', ⟨rfl, rfl⟩, q1, q2, q3, q4⟩, hst, hfr, hlv⟩ := hcall (fr :: cs')
  have hgo := stepGR_op (P := P) (b := fr) (a := ⟨fr.tmps, fr.defers⟩) (k := k') (cs := cs') (w := w) (rest := rest) ho (by simp [Region.wanted, hg])
  rw [Oper.semAt_eq _ _ _ (fun c h => by rw [hop] at h; cases h), ← h0, atR_self hf.mode] at hgo
  have henter : step P (lone fr cs' w) = .next (lone (Frame.enter P g (fvs ++ xs.map (Act.eval ⟨fr.tmps, fr.defers⟩)) .normal) (fr :: cs') w) :=
    step_lone_go (by rw [hgo]; simp [stepG.apply, call_enterBA (P := P) (w := w) hF.h hF.b hF.nm hop hfo', h0])
  cases e with
  | returned v => exact q4.elim
  | panicked chain =>
    obtain ⟨u, rfl, hu'⟩ := q4
    obtain ⟨u2, rfl, hu2⟩ := rv_ifc hu'
    have := rv_cl hv hu2
    subst this
    have hf' := hf.mono q3 q2
    have hm := hf.mode
    simp only at hm
    refine ⟨[fr.raise _], w', ρ', .head henter (Steps.trans hst (.one (step_leave_panicked hlv))), .cons ?_ .nil, q1, q2, q3⟩
    simp only [Frame.raise, hm]
    exact ⟨hf'.fn, hf'.size, hf'.slots, hf'.todo, hf'.rd, hf'.defs, hf'.kind, rfl⟩
  | outgrown => exact q4.elim
end
end Go.Iron
