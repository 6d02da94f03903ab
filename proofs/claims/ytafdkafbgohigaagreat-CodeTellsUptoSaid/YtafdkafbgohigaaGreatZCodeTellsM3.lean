/-
  Parts of the proof of CodeTellsUptoSaid, put together: the abstract evaluation and its contracts. Own work.
  What is proved: each lemma as it stands; no condition.
-/
import Derived.KernelRfl
import Derived.Test.YtafdkafbgohigaaGreatProg
import Derived.Lib.Bytealg
import Derived.Test.YtafdkafbgohigaaGreatRows
import Derived.ProofKit
import Derived.OpenShut
import Derived.JoinedCond
import Derived.ChangeArms
import Derived.RowKit
import Derived.WalkKit
import Derived.Test.YtafdkafbgohigaaGreatZCodeTellsM2
open List renaming length → qBe, get?Internal → qBg, getElem?_eq_getElem → qBk, take → qBm, getElem?_eq_some_iff → qBn, length_append → qBr, take_of_length_le → qBt, getElem?_append_left → qBx, mem_of_getElem? → qBy, getElem?_append_right → qBz, append → qBA, getElem?_set → qBC, length_map → qBE, mem_append → qBF, mem_cons → qBG, replicate → qBI, drop_eq_getElem_cons → qBJ, length_cons → qBK, getElem?_cons_zero → qBP, getElem?_cons_succ → qBQ, drop_eq_nil_of_le → qBR, take_length → qBS, range → qBT, drop → qBU, length_take → qBW, map_cons → qBZ
open Go.IntKind renaming wrap → qBf, i64 → qB2
open Nat renaming beq → qBh, eq_of_beq_eq_true → qBo, le_refl → qBp, ble → qBv, mul_le_mul_right → qBH, beq_refl → qBL, ble_eq → qBN, add_assoc → qBO, blt_eq → qBY, zero_add → qB0
open Bool renaming and_eq_true → qBi, false_eq_true → qBu, and_self → qBw, true_and → qBV, not_true → qB1
open Int renaming toNat → qBj, toNat_natCast → qBB, reduceEq → qBX
open Option renaming bind_eq_some_iff → qBl, map_eq_some_iff → qBq, bind_some → qBs, map_some → qBD
open Array renaming toList → qBM
set_option maxRecDepth 1000000
set_option maxHeartbeats 0
noncomputable section
namespace Go.Av
variable {α : Type}
abbrev KV(α:Type):=AV->Option α
abbrev KH(α:Type):=AV->AH->Option α
abbrev KE(α:Type):=Ex->List AV->AH->Option α
abbrev KF(α:Type):=Tgt->List AV->AH->(AV×AH->Option α)->Option α
def kInt(kd:IntKind)(v:AV)(k:Int->Option α):Option α:=
 match v with
 | .int k' n=>cond (qa0 k' kd) (k n) none
 |_=>none
def qu(v:AV)(k:Bool->Option α):Option α:=
 match v with
 | .bool b=>k b
 |_=>none
def kStr(v:AV)(k:List UInt8->Option α):Option α:=
 match v with
 | .str s=>k s
 |_=>none
def kSl(v:AV)(k:List (List AV)->Option α):Option α:=
 match v with
 | .sl rows=>k rows
 |_=>none
def kAgg(v:AV)(k:List AV->Option α):Option α:=
 match v with
 | .agg cs=>k cs
 |_=>none
def kOpt{β:Type}(o:Option β)(k:β->Option α):Option α:=
 match o with
 |some b=>k b
 |none=>none
def qa(l:List AV)(k:AV->List AV->Option α):Option α:=
 match l with
 |c::cs=>k c cs
 |[]=>none
def kNil(l:List AV)(x:Option α):Option α:=
 match l with
 |[]=>x
 |_=>none
def qbs(s:FK)(v:AV)(k:KV α):Option α:=
 match s with
 | .int kd=>kInt kd v λn=>k (.int kd n)
 | .bool=>qu v λb=>k (.bool b)
 | .str=>kStr v λs=>k (.str s)
 | .sl=>kSl v λrows=>k (.sl rows)
 | .any=>k v
def qch:List FK->List AV->(List AV->Option α)->Option α
 |[],l,k=>kNil l (k [])
 |s::ss,l,k=>qa l λc cs=>qbs s c λv=>qch ss cs λvs=>k (v::vs)
def qvj(sl:Bool):TD->FK
 | .int k=>.int k
 | .bool=>.bool
 | .str=>.str
 | .slice _=>if sl then .sl else .any
 |_=>.any
def qle(cfg:Cfg)(p:TypeId->Bool):Nat->TypeId->Option (List FK)
 |0,_=>none
 |n+1,t=>
  match cfg.td t with
  |some (.struct fs)=>(fs.foldr (λf acc=>match qle cfg p n f.2,acc with|some l,some a=>some (l++a)|_,_=>none) (some []))
  |some (.array m e)=>(match qle cfg p n e with|some l=>some ((qBI m l).flatten)|none=>none)
  |some d=>some [qvj (p t) d]
  |none=>none
def kTy1(p:TypeId->Bool)(cfg:Cfg)(t:TypeId)(v:AV)(k:KV α):Option α:=
 match cfg.td t with
 |some d=>
  match d with
  | .struct _=>(match qle cfg p 6 t with|some ss=>kAgg v λcs=>qch ss cs λvs=>k (.agg vs)|none=>k v)
  | .array _ _=>(match qle cfg p 6 t with|some ss=>kAgg v λcs=>qch ss cs λvs=>k (.agg vs)|none=>k v)
  |d=>qbs (qvj (p t) d) v k
 |none=>k v
def kTup(v:AV)(k:List AV->Option α):Option α:=
 match v with
 | .tup cs=>k cs
 |_=>none
def kTys(p:TypeId->Bool)(cfg:Cfg):List TypeId->List AV->(List AV->Option α)->Option α
 |[],l,k=>kNil l (k [])
 |t::ts,l,k=>qa l λc cs=>kTy1 p cfg t c λv=>kTys p cfg ts cs λvs=>k (v::vs)
def kTy(p:TypeId->Bool)(cfg:Cfg)(t:TypeId)(v:AV)(k:KV α):Option α:=
 match cfg.tup t with
 |some ts=>kTup v λcs=>kTys p cfg ts cs λvs=>k (.tup vs)
 |none=>kTy1 p cfg t v k
def AV.regA(i:Nat):AV->AV
 | .agg cs=>.agg (cs.map (AV.regn i))
 |a=>a
def noTy:TypeId->Bool:=λ_=>false
def qgC:TypeId->Bool:=λ_=>true
def qA7(cfg:Cfg)(H:AH)(a:AV):TypeId->Bool:=
 match a with
 | .cptr _ _=>cfg.dat
 | .ptr id _ _=>if xZ H id then cfg.dat else noTy
 |_=>noTy
def kNew(nid:Option Nat)(H:AH)(b:ABlk)(k:Nat->AH->Option α):Option α:=
 match nid with
 |none=>k H.length (H++[b])
 |some i=>kOpt H[i]? λx=>match x with| .res=>k i (H.set i b)|_=>none
def qt0(cfg:Cfg)(t:TypeId):Bool:=match cfg.td t with|some d=>d.agg|none=>false
def qcx(agg:Bool)(v:AV)(k:List AV->Option α):Option α:=
 cond agg (kAgg v λcs=>cond (xE cs) (k cs) none) (cond v.isCell (k [v]) none)
def qta(t:Bool)(a b:AV)(k:KV α):Option α:=
 match a,b with
 | .bool p,.bool q=>k (.bool (cond t p q))
 | .int k1 p,.int k2 q=>cond (qa0 k1 k2) (k (.int k1 (cond t p q))) (cond t (k a) (k b))
 |a,b=>cond t (k a) (k b)
def qlu(place:Nat->Option (Nat×Nat×Bool))(cells:List AV):List (Nat×AV)->(List AV->Option α)->Option α
 |[],k=>k cells
 |(i,v)::rest,k=>
  match place i with
  |some (off,size,agg)=>qcx agg v λcs=>cond (qBh cs.length size&&qBv (off+size) cells.length) (qlu place (cells.take off++cs++cells.drop (off+size)) rest k) none
  |none=>none
def qim(cfg:Cfg):List (Nat×TypeId)->Option (List (Nat×Nat×Bool))
 |[]=>some []
 |(off,t)::l=>
  match cfg.sz t,qim cfg l with
  |some n,some ps=>some ((off,n,qt0 cfg t)::ps)
  |_,_=>none
def qob(agg:Bool)(n:Nat)(rows:List (List AV)):List (Nat×AV)->(List (List AV)->Option α)->Option α
 |[],k=>k rows
 |(i,v)::rest,k=>qcx agg v λcs=>cond (qBh cs.length n&&Nat.blt i rows.length) (qob agg n (rows.set i cs) rest k) none
def kBlk(H:AH)(id:Nat)(k:Nat->List (List AV)->Option α):Option α:=
 kOpt H[id]? λb=>match b with| .rows _ sz rs=>k sz rs| .froz _ sz rs=>k sz rs|_=>none
def qeI(H:AH)(id:Nat)(k:Bool->Nat->List (List AV)->Option α):Option α:=
 kOpt H[id]? λb=>match b with| .rows d sz rs=>k d sz rs|_=>none
def qcH(agg:Bool)(n:Nat)(cells:List AV)(off:Nat)(k:KV α):Option α:=
 cond agg (cond (qBv (off+n) cells.length) (k (.agg ((cells.drop off).take n))) none) (kOpt cells[off]? k)
def qlp(agg:Bool)(n:Nat)(H:AH)(p:AV)(k:KV α):Option α:=
 match p with
 | .ptr id r off=>kBlk H id λ_ rs=>kOpt rs[r]? λrow=>qcH agg n row off k
 | .cptr cs off=>qcH agg n cs off k
 | .lpt cs off=>qcH agg n (cs.map AV.lend) off k
 | .rpt id cs off=>kOpt H[id]? λb=>match b with
  | .reg=>qcH agg n (cs.map (AV.regn id)) off k
  | .spl=>cond agg (cond (qBh n 4) (qch [.int .i64,.int .i64,.str,.sl] ((cs.drop off).take 4) λvs=>k (.alt [.agg (vs.map (AV.regn id)),.agg qik,.agg row0])) none) (kOpt (qmj cs off) λrows=>k (.rsl id rows))
  |_=>none
 |_=>none
def qpe(agg:Bool)(n:Nat)(H:AH)(p v:AV)(k:AH->Option α):Option α:=
 match p with
 | .ptr id r off=>qcx agg v λcs=>qeI H id λd sz rs=>kOpt rs[r]? λrow=>cond (qBh cs.length n&&qBv (off+n) row.length) (k (H.set id (.rows (d&&qF 0 cs) sz (rs.set r (row.take off++cs++row.drop (off+n)))))) none
 | .rpt id cs off=>kOpt H[id]? λb=>match b with| .spl=>cond (qBh n 4) (cond (qcr ((cs.drop off).take 4)&&is77 v) (k H) none) (cond (qBh n 7&&qlz (cs.drop off)&&qdI v) (k H) none)|_=>none
 |_=>none
def qhE(v:AV)(k:KV α):Option α:=
 match v with
 | .ptr id r off=>k (.ptr id r off)
 | .cptr cs off=>k (.cptr cs off)
 | .fn (.func f) a b=>k (.fn (.func f) a b)
 | .mp id=>k (.mp id)
 | .yld id=>k (.yld id)
 |_=>none
def qh(a b:Int):Bool:=decide (a<=b)
def qn(a b:Int):Bool:=decide (a<b)
def qhJ(lo hi:Nat)(x:Option AV)(dflt:Nat)(k:Nat->Option α):Option α:=
 match x with
 |none=>k dflt
 |some v=>match v with| .int _ i=>cond (qh lo i&&qh i hi) (k i.toNat) none|_=>none
def qcw(n:Nat)(lo hi mx:Option AV)(k:Nat->Nat->Option α):Option α:=
 cond (hi.isNone&&mx.isSome) none (qhJ 0 n hi n λh=>qhJ h n mx h λ_=>qhJ 0 h lo 0 λl=>k l h)
def qpf(cfg:Cfg)(t:TypeId)(H:AH)(x:AV)(lo hi mx:Option AV)(k:KV α):Option α:=
 match cfg.td t with
 |some .str=>(match mx with|none=>(match x with| .str s=>qcw s.length lo hi none λl h=>k (.str ((s.drop l).take (h - l)))|_=>none)|_=>none)
 |some (.slice e)=>
  match cfg.sz e with
  |some n=>
   match x with
   | .nilS=>qcw 0 lo hi mx λ_ _=>k .nilS
   | .sl rows=>qcw rows.length lo hi mx λl h=>cond (xR n rows) (match cfg.ems t with|false=>k (.sl ((rows.drop l).take (h - l)))|true=>k (slE true rows l h)) none
   | .ms id off len=>qcw len lo hi mx λl h=>kBlk H id λsz _=>cond (qBh sz n) (k (.ms id (off+l) (h - l))) none
   | .wr _ v=>(match lo,hi,mx with
    |none,some hv,none=>(match hv with
     | .int _ h=>(match v with
      | .sl rows=>cond (qh 0 h&&qh h rows.length) (k (.wr h.toNat (.sl rows))) none
      | .ms id off len=>cond (qh 0 h&&qh h len) (k (.wr h.toNat (.ms id off len))) none
      |_=>none)
     |_=>none)
    |_,_,_=>none)
   |_=>none
  |none=>none
 |_=>none
def qgk(cfg:Cfg)(t:TypeId)(H:AH)(x i:AV)(k:KV α):Option α:=
 match i with
 | .int _ i=>
  match cfg.td t with
  |some (.slice e)=>
   match cfg.sz e with
   |some n=>
    match x with
    | .ms id off len=>kBlk H id λsz _=>cond (qBh sz n&&qh 0 i&&qn i len) (k (.ptr id (off+i.toNat) 0)) none
    | .sl rows=>cond (qh 0 i&&qn i rows.length) (kOpt rows[i.toNat]? λrow=>cond (qBh row.length n) (k (.cptr row 0)) none) none
    | .lsl rows=>cond (qh 0 i&&qn i rows.length) (kOpt rows[i.toNat]? λrow=>cond (qBh row.length n) (k (.lpt row 0)) none) none
    | .rsl id rows=>cond (qh 0 i&&qn i rows.length) (kOpt rows[i.toNat]? λrow=>cond (qBh row.length n) (k (.rpt id row 0)) none) none
    |_=>none
   |none=>none
  |some (.array n e)=>
   match cfg.sz e with
   |some sz=>
    match x with
    | .ptr id r off=>cond (qh 0 i&&qn i n) (k (.ptr id r (off+i.toNat*sz))) none
    | .cptr cs off=>cond (qh 0 i&&qn i n) (k (.cptr cs (off+i.toNat*sz))) none
    |_=>none
   |none=>none
  |_=>none
 |_=>none
def qpn(cfg:Cfg)(t:TypeId)(x i:AV)(k:KV α):Option α:=
 match i with
 | .int _ i=>
  match cfg.td t with
  |some (.array n e)=>
   match cfg.ty e with
   |some ti=>kAgg x λcs=>cond (qh 0 i&&qn i n) (qcH ti.d.agg ti.sz cs (i.toNat*ti.sz) k) none
   |none=>none
  |some .str=>kStr x λs=>cond (qh 0 i) (kOpt s[i.toNat]? λb=>k (.int .u8 b.toNat)) none
  |_=>none
 |_=>none
def qpo(cfg:Cfg)(t:TypeId)(x:AV)(f:Nat)(k:KV α):Option α:=
 match cfg.td t with
 |some (.struct fs)=>
  match fs[f]? with
  |some (off,ft)=>(match cfg.ty ft with|some ti=>kAgg x λcs=>qcH ti.d.agg ti.sz cs off k|none=>none)
  |none=>none
 |_=>none
def qgn(cfg:Cfg)(t:TypeId)(x:AV)(f:Nat)(k:KV α):Option α:=
 match cfg.td t with
 |some (.struct fs)=>
  match fs[f]? with
  |some (o,ft)=>
   match cfg.sz ft with
   |some (_+1)=>(match x with| .ptr id r off=>k (.ptr id r (off+o))| .cptr cs off=>k (.cptr cs (off+o))| .rpt id cs off=>k (.rpt id cs (off+o))|_=>none)
   |_=>none
  |none=>none
 |_=>none
def qjP(cfg:Cfg)(nid:Option Nat)(src dst:TypeId)(x:AV)(H:AH)(k:KH α):Option α:=
 match cfg.td src,cfg.td dst with
 |some (.int _),some (.int kd)=>(match x with| .int _ n=>k (.int kd (kd.wrap n)) H|_=>none)
 |some .str,some .str=>kStr x λs=>k (.str s) H
 |some .str,some (.slice e)=>
  match cfg.td e with
  |some (.int .u8)=>kStr x λs=>kNew nid H (.rows true 1 (qap s)) λi H'=>k (.ms i 0 s.length) H'
  |_=>none
 |some (.slice e),some .str=>
  match cfg.td e with
  |some (.int .u8)=>kOpt (yX H 1 x) λrows=>kOpt (yE rows) λbs=>k (.str bs) H
  |_=>none
 |_,_=>none
def qms(H:AH)(n:Nat)(x:AV)(k:List (List AV)->Option α):Option α:=
 match x with
 | .nilS=>k []
 | .em=>k []
 | .sl rows=>cond (xR n rows) (k rows) none
 | .ms id off len=>kBlk H id λsz rs=>cond (qBh sz n&&qBv (off+len) rs.length) (k ((rs.drop off).take len)) none
 |_=>none
def kSrc(isStr:Bool)(H:AH)(n:Nat)(x:AV)(k:List (List AV)->Option α):Option α:=
 cond isStr (kStr x λb=>cond (qBh n 1) (k (qap b)) none) (qms H n x k)
def qrW(cfg:Cfg)(t:TypeId):Bool:=match cfg.td t with|some .str=>true|_=>false
def qmw(cfg:Cfg)(nid:Option Nat)(t xt:TypeId)(s x:AV)(H:AH)(k:KH α):Option α:=
 match cfg.td t,cfg.td xt with
 |some (.slice e),some xd=>
  match cfg.ty e with
  |some ei=>
   cond (xd.notInt&&Nat.blt 0 ei.sz&&qBh ei.zero.length ei.sz)
    (kSrc (qrW cfg xt) H ei.sz x λnews=>
     match s with
     | .nilS=>cond news.isEmpty (k .nilS H) (cond (q8 news.length ei.bytes) (kNew nid H (.rows (yi H x) ei.sz news) λi H'=>k (.ms i 0 news.length) H') none)
     | .ms id off len=>qeI H id λd sz rs=>cond (qBh sz ei.sz&&qBv (off+len) rs.length&&q8 (len+news.length) ei.bytes)
       (kNew nid (H.set id .dead) (.rows (d&&yi H x) sz ((rs.drop off).take len++news)) λi H'=>k (.ms i 0 (len+news.length)) H') none
     |_=>none) none
  |none=>none
 |_,_=>none
def kLen(cfg:Cfg)(t:TypeId)(x:AV)(H:AH)(k:KV α):Option α:=
 match cfg.td t with
 |some .str=>kStr x λs=>k (.int .i64 s.length)
 |some (.slice _)=>(match x with| .nilS=>k (.int .i64 0)| .em=>k (.int .i64 0)| .sl rows=>k (.int .i64 rows.length)| .ms _ _ len=>k (.int .i64 len)| .lsl rows=>k (.int .i64 rows.length)| .rsl _ rows=>k (.int .i64 rows.length)|_=>none)
 |some (.array n _)=>k (.int .i64 n)
 |some (.map _ _)=>(match x with| .nilM=>k (.int .i64 0)| .mp id=>(kOpt H[id]? λb=>match b with| .mp _ es=>k (.int .i64 es.length)|_=>none)|_=>none)
 |_=>none
def qoc(cfg:Cfg)(nid:Option Nat)(t:TypeId)(len cap:AV)(H:AH)(k:KH α):Option α:=
 match cfg.td t with
 |some (.slice e)=>
  match cfg.ty e with
  |some ei=>
   cond (zY ei) (kInt .i64 len λn=>kInt .i64 cap λc=>
    cond (qh 0 n&&qh n c&&qh (c*ei.bytes) 140737488355328&&qh c 9223372036854775807) (kNew nid H (.rows true ei.sz (qBI n.toNat ei.zero)) λi H'=>k (.ms i 0 n.toNat) H') none) none
  |none=>none
 |_=>none
def qpk(cfg:Cfg)(nid:Option Nat)(t:TypeId)(len cap:AV)(H:AH)(k:KH α):Option α:=
 match cfg.wrt t with
 |false=>qoc cfg nid t len cap H k
 |true=>
  match len,cap with
  | .int _ n,.int _ c=>cond (decide (n=c)) (qoc cfg nid t len cap H λv H'=>match v with| .ms id off l=>k (.wr l (.ms id off l)) H'|_=>none) none
  |_,_=>none
def kCap(cfg:Cfg)(t:TypeId)(x:AV)(k:KV α):Option α:=
 match cfg.td t with
 |some (.slice _)=>(match x with| .wr _ v=>(match v with| .sl rows=>k (.int .i64 rows.length)| .ms _ _ len=>k (.int .i64 len)|_=>none)|_=>none)
 |_=>none
def qpp(cfg:Cfg)(t:TypeId)(x:AV)(H:AH)(k:AH->Option α):Option α:=
 match cfg.td t with
 |some (.slice e)=>
  match x with
  | .nilS=>k H
  | .ms id off len=>
   match cfg.ty e with
   |some ei=>qeI H id λd sz rs=>cond (zY ei&&qBh sz ei.sz&&qBv (off+len) rs.length) (k (H.set id (.rows d sz (rs.take off++qBI len ei.zero++rs.drop (off+len))))) none
   |none=>none
  |_=>none
 |_=>none
def qte(cfg:Cfg)(t xt:TypeId)(d s:AV)(H:AH)(k:KH α):Option α:=
 match cfg.td t with
 |some (.slice e)=>
  match d with
  | .ms id off len=>
   match cfg.sz e with
   |some n=>qeI H id λd sz rs=>kSrc (qrW cfg xt) H n s λnews=>cond (qBh sz n&&qBv (off+len) rs.length&&Nat.blt 0 sz)
     (k (.int .i64 (Nat.min news.length len)) (H.set id (.rows (d&&yi H s) sz (rs.take off++news.take len++rs.drop (off+(news.take len).length))))) none
   |none=>none
  |_=>none
 |_=>none
def kMpB(b:ABlk)(k:Bool->List (AV×AV)->Option α):Option α:=
 match b with
 | .mp d es=>k d es
 |_=>none
def qpj(H:AH)(x:AV)(k:Bool->List (AV×AV)->Option α):Option α:=
 match x with
 | .nilM=>k true []
 | .mp id=>kOpt H[id]? λb=>kMpB b k
 |_=>none
def ye(r:Option (Nat×AV))(x:Option α)(y:Nat->AV->Option α):Option α:=
 match r with
 |none=>x
 |some p=>y p.1 p.2
def qzf(cfg:Cfg):Bool->TypeId->Bool
 |true=>cfg.dat
 |false=>noTy
def qmv(cfg:Cfg)(t:TypeId)(x key:AV)(ok:Bool)(H:AH)(k:KV α):Option α:=
 match cfg.td t with
 |some (.map kt et)=>
  match cfg.td kt with
  |some d=>qpj H x λdf es=>cond d.keyed (kOpt (vw d key es 0) λr=>ye r
    (kOpt (cfg.zeroV et) λz=>k (cond ok (.tup [z,.bool false]) z))
    λ_ v=>kTy1 (qzf cfg df) cfg et v λv=>k (cond ok (.tup [v,.bool true]) v)) none
  |none=>none
 |_=>none
def qmu(cfg:Cfg)(t:TypeId)(m key v:AV)(H:AH)(k:AH->Option α):Option α:=
 match cfg.td t with
 |some (.map kt _)=>
  match m with
  | .mp id=>
   match cfg.td kt with
   |some d=>kOpt H[id]? λb=>kMpB b λd0 es=>cond d.keyed (kOpt (vw d key es 0) λr=>ye r
     (k (H.set id (.mp (d0&&(key.refsLt 0&&v.refsLt 0)) (es++[(key,v)]))))
     λi _=>k (H.set id (.mp (d0&&(key.refsLt 0&&v.refsLt 0)) (es.set i (key,v))))) none
   |none=>none
  |_=>none
 |_=>none
def qpl(cfg:Cfg)(nid:Option Nat)(t:TypeId)(r:Option AV)(H:AH)(k:KH α):Option α:=
 match cfg.td t with
 |some (.map _ _)=>
  match r with
  |none=>kNew nid H (.mp true []) λi H'=>k (.mp i) H'
  |some h=>(match h with| .int _ _=>kNew nid H (.mp true []) λi H'=>k (.mp i) H'|_=>none)
 |_=>none
def kOp(cfg:Cfg)(nid:Option Nat)(o:Op)(ty:TypeId)(x:Operand->AV)(H:AH)(k:KH α):Option α:=
 match o with
 | .move a| .assign a=>k (x a) H
 | .pick c a b=>qu (x c) λt=>qta t (x a) (x b) λv=>k v H
 | .alloc t=>
  match cfg.ty t with
  |some ti=>cond (xE ti.zero) (kNew nid H (qbM cfg t ti.zero) λi H'=>k (.ptr i 0 0) H') none
  |none=>none
 | .box t a=>qcx (qt0 cfg t) (x a) λcs=>kNew nid H (qen cfg t cs) λi H'=>k (.ptr i 0 0) H'
 | .build t parts=>
  match cfg.ty t with
  |some ti=>
   cond (xE ti.zero)
    (match ti.d with
    | .struct fs=>
     match qim cfg fs with
     |some ps=>qlu (λi=>ps[i]?) ti.zero (parts.toList.map λp=>(p.1,x p.2)) λcs=>k (.agg (cfg.fga t cs)) H
     |none=>none
    | .array _ e=>
     match cfg.sz e with
     |some n=>qlu (λi=>some (i*n,n,qt0 cfg e)) ti.zero (parts.toList.map λp=>(p.1,x p.2)) λcs=>k (.agg cs) H
     |none=>none
    |_=>none) none
  |none=>none
 | .buildSlice t len parts=>
  match cfg.td t with
  |some (.slice e)=>
   match cfg.ty e with
   |some ei=>
    cond (zY ei&&qBv (len*ei.sz) 16777216)
     (qob ei.d.agg ei.sz (qBI len ei.zero) (parts.toList.map λp=>(p.1,x p.2)) λrows=>kNew nid H (.rows (qV 0 rows) ei.sz rows) λi H'=>k (.ms i 0 len) H') none
   |none=>none
  |_=>none
 | .load t a=>
  match cfg.ty t with
  |some ti=>match x a with
   | .lpt cs off=>qcH ti.d.agg ti.sz cs off λv=>kTy cfg.dat cfg t v λv=>cond ti.d.agg (k v.lendA H) (k v.lend H)
   | .rpt id cs off=>kOpt H[id]? λb=>match b with
    | .reg=>qcH ti.d.agg ti.sz cs off λv=>kTy cfg.dat cfg t v λv=>cond ti.d.agg (k (v.regA id) H) (k (v.regn id) H)
    |_=>qlp ti.d.agg ti.sz H (.rpt id cs off) λv=>k v H
   |p=>qlp ti.d.agg ti.sz H p λv=>kTy (qA7 cfg H p) cfg t v λv=>k v H
  |none=>none
 | .store t a v=>
  match cfg.ty t with
  |some ti=>qpe ti.d.agg ti.sz H (x a) (x v) λH'=>k .junk H'
  |none=>none
 | .nilCheck a=>qhE (x a) λv=>k v H
 | .binOp op t a b _=>kOpt (aBin cfg (litN a b) op t (x a) (x b)) λv=>kTy noTy cfg ty v λv=>k v H
 | .unOp op _ a=>kOpt (aUn op (x a)) λv=>kTy noTy cfg ty v λv=>k v H
 | .convert s d a=>qjP cfg nid s d (x a) H k
 | .makeFunc f first caps=>k (.fn f (first.toList.map x) (caps.toList.map x)) H
 | .makeSlice t l c=>qpk cfg nid t (x l) (x c) H k
 | .makeMap t r=>qpl cfg nid t (r.map x) H k
 | .lookup t a key ok=>qmv cfg t (x a) (x key) ok H λv=>k v H
 | .mapUpdate t m key v| .insert t m key v=>qmu cfg t (x m) (x key) (x v) H λH'=>k .junk H'
 | .slice t a lo hi mx=>qpf cfg t H (x a) (lo.map x) (hi.map x) (mx.map x) λv=>k v H
 | .fieldAddr t a f=>qgn cfg t (x a) f λv=>k v H
 | .field t a f=>qpo cfg t (x a) f λv=>kTy noTy cfg ty v λv=>k v H
 | .indexAddr t a i=>qgk cfg t H (x a).unwr (x i) λv=>k v H
 | .index t a i=>qpn cfg t (x a) (x i) λv=>kTy noTy cfg ty v λv=>k v H
 | .extract t i=>(match x t with| .tup vs=>kOpt vs[i]? λv=>kTy noTy cfg ty v λv=>k v H|_=>none)
 | .call c=>
  match c.callee with
  | .builtin b=>
   match b,c.args.toList,c.argTypes.toList with
   | .len,[a],[t]=>kLen cfg t (x a).unwr H λv=>k v H
   | .cap,[a],[t]=>kCap cfg t (x a) λv=>k v H
   | .append,[s,a],[t,xt]=>qmw cfg nid t xt (x s) (x a) H k
   | .copy,[d,s],[t,xt]=>qte cfg t xt (x d).unwr (x s) H k
   | .clear,[a],[t]=>qpp cfg t (x a) H λH'=>k (.tup []) H'
   | .min,[a,b],_=>kOpt (aMin (λb a=>decide (b<a)) [x a,x b]) λv=>kTy noTy cfg ty v λv=>k v H
   | .max,[a,b],_=>kOpt (aMin (λb a=>decide (a<b)) [x a,x b]) λv=>kTy noTy cfg ty v λv=>k v H
   |_,_,_=>none
  |_=>none
 |_=>none
def qls(g s:Bool)(H:AH)(v:AV)(k:KV α):Option α:=
 match v with
 | .ms id off len=>kBlk H id λ_ rs=>cond (qBv (off+len) rs.length&&(xZ H id||qV 0 ((rs.drop off).take len))) (k (.sl ((rs.drop off).take len))) none
 | .nilS=>k (cond g (.sl []) .nilS)
 | .em=>k (cond g (.sl []) .em)
 | .wr n v=>(match v with| .sl rows=>k (cond g (.sl (rows.take n)) (.wr n (.sl rows)))|_=>none)
 | .ptr id r off=>cond s (kBlk H id λ_ rs=>kOpt rs[r]? λrow=>cond (qF 0 row) (k (.cptr row off)) none) (k (.ptr id r off))
 | .rsl id rows=>cond s (kOpt H[id]? λb=>match b with| .reg=>k (.sl rows)|_=>none) (k (.rsl id rows))
 |a=>k a
def qbD(g s:Bool)(H:AH):List AV->(List AV->Option α)->Option α
 |[],k=>k []
 |a::l,k=>qls g s H a λa=>qbD g s H l λl=>k (a::l)
def qce(s:Bool)(H:AH)(v:AV)(k:KV α):Option α:=
 match v with
 | .agg cs=>qbD true s H cs λcs=>k (.agg cs)
 | .tup cs=>cond s (k ((AV.tup cs).fg)) (qbD true s H cs λcs=>k (.tup cs))
 | .fn f a b=>cond s (qbD false s H a λa=>qbD false s H b λb=>k (.fn f a b)) (k (.fn f a b))
 |a=>qls true s H a k
def qtb(H:AH)(v:AV)(k:KV α):Option α:=
 match v with
 | .agg cs=>qbD false false H cs λcs=>k (.agg cs)
 | .tup cs=>qbD false false H cs λcs=>k (.tup cs)
 |a=>qls false false H a k
def qhI(H:AH):List AV->(List AV->Option α)->Option α
 |[],k=>k []
 |a::l,k=>qtb H a λa=>qhI H l λl=>k (a::l)
def qof(H:AH):List AV->(List AV->Option α)->Option α
 |[],k=>k []
 |a::l,k=>qce true H a λa=>qof H l λl=>k (a::l)
inductive OV where
 |nil
 |own (sz:Nat) (rs:List (List AV)) (off len:Nat)
def ovOf(r:AV×AH):Option OV:=
 match r.1 with
 | .nilS=>some .nil
 | .ms id off len=>
  match r.2[id]? with
  |some (.rows d sz rs)=>if d||qV 0 rs then some (.own sz rs off len)else none
  |_=>none
 |_=>none
def qn4(r:AV×AH):Option (OV×AV):=
 match r.1 with
 | .tup [a,s]=>cond ((s.frz s.msIds r.2).fg.refsLt 0) (match ovOf (a,vm s.msIds r.2)with|some o=>some (o,(s.frz s.msIds r.2).fg)|none=>none) none
 |_=>none
def EVd(cf:Orac)(f:Nat)(args:List AV)(sz:Nat)(rs:List (List AV)):Option (AV×List (List AV)):=(cf (.f f) args [.rows true sz rs]).bind (qlD sz)
def EVx(cf:Orac)(f:Nat)(args:List AV)(sz:Nat)(rs:List (List AV)):Option (AV×List (List AV)):=(cf (.f f) args [.rows false sz rs]).bind (qkH sz)
open Classical in
def EVk (cf:Orac) (f:Nat) (args:List AV) (sz:Nat) (rs:List (List AV)):Option AV:=(EVx cf f args sz rs).bind λq=>if q.2=rs then some q.1 else none
theorem qwr{cf:Orac}{f:Nat}{args:List AV}{sz:Nat}{rs:List (List AV)}{v:AV}(h:EVx cf f args sz rs=some (v,rs)):EVk cf f args sz rs=some v:=by
 unfold EVk;rw[h];exact qB5 rfl
theorem qxO{cf:Orac}{f:Nat}{args:List AV}{sz:Nat}{rs:List (List AV)}{v:AV}(h:EVk cf f args sz rs=some v):EVx cf f args sz rs=some (v,rs):=by
 unfold EVk at h;obtain⟨q,h1,h2⟩:=qBl.1 h;split at h2
 ·rename_i e;rw[h1,←Option.some.inj h2,←e]
 ·cases h2
def EVs(cf:Orac)(f:Nat)(args:List AV):Option AV:=(cf (.f f) args []).map λr=>r.1
def EVf(cf:Orac)(f:Nat)(args:List AV):Option AV:=(cf (.f f) args []).map λr=>(r.1.frz r.1.msIds r.2).fg
def EVo(cf:Orac)(f:Nat)(args:List AV):Option OV:=(cf (.f f) args []).bind ovOf
def EVj(cf:Orac)(f k:Nat)(args:List AV)(G:AH):Option (AV×AH):=(cf (.f f) args G).bind (qkZ k)
def qf(l:AH)(k:ABlk->AH->Option α):Option α:=
 match l with
 |b::bs=>k b bs
 |[]=>none
def qT(l:AH)(x:Option α):Option α:=
 match l with
 |[]=>x
 |_=>none
def qN(l:List (List AV))(k:List AV->List (List AV)->Option α):Option α:=
 match l with
 |b::bs=>k b bs
 |[]=>none
def qX(l:List (List AV))(x:Option α):Option α:=
 match l with
 |[]=>x
 |_=>none
def qj(b:ABlk)(k:Bool->Nat->List (List AV)->Option α):Option α:=
 match b with
 | .rows d n rs=>k d n rs
 |_=>none
def kMsE(v:AV)(k:Nat->Nat->Nat->Option α):Option α:=
 match v with
 | .ms a b c=>k a b c
 |_=>none
def kMpE(v:AV)(k:Nat->Option α):Option α:=
 match v with
 | .mp a=>k a
 |_=>none
def qlk(v:AV)(k:Nat->Nat->Nat->Option α):Option α:=
 match v with
 | .ptr a b c=>k a b c
 |_=>none
def beqB(a b:Bool):Bool:=cond a b (!b)
def kShB(s:BSh)(b:ABlk)(k:ABlk->Option α):Option α:=
 match s with
 | .row d cs=>qj b λd' n rs=>cond (beqB d d'&&qBh n cs.length) (qN rs λrow rest=>qX rest (k (.rows d cs.length [row]))) none
 | .rows d sz=>qj b λd' n rs=>cond (beqB d d'&&qBh n sz) (k (.rows d sz rs)) none
 | .mp d=>kMpB b λd' es=>cond (beqB d d') (k (.mp d es)) none
def kSh1:List BSh->AH->(AH->Option α)->Option α
 |[],l,k=>qT l (k [])
 |s::ss,l,k=>qf l λb bs=>kShB s b λb=>kSh1 ss bs λbs=>k (b::bs)
def kShC(G:AH)(s:CSh)(c:AV)(k:KV α):Option α:=
 match s with
 | .leaf s=>qbs s c k
 | .sl j=>kMsE c λid off len=>kBlk G j λ_ rs=>cond (qBh id j&&(qBh off 0&&qBh len rs.length)) (k (.ms j 0 rs.length)) none
 | .mp j=>kMpE c λid=>cond (qBh id j) (k (.mp j)) none
 | .is v=>cond (c.same v) (k v) none
 | .ptr j=>qlk c λid r off=>cond (qBh id j&&(qBh r 0&&qBh off 0)) (k (.ptr j 0 0)) none
def qoa(G:AH):List CSh->List AV->(List AV->Option α)->Option α
 |[],l,k=>kNil l (k [])
 |s::ss,l,k=>qa l λc cs=>kShC G s c λv=>qoa G ss cs λvs=>k (v::vs)
def kShD(G:AH)(s:BSh)(b:ABlk)(k:ABlk->Option α):Option α:=
 match s with
 | .row _ cs=>qj b λd' n rs=>qN rs λrow rest=>qX rest (qoa G cs row λcs'=>k (.rows d' n [cs']))
 |_=>k b
def kSh2(G:AH):List BSh->AH->(AH->Option α)->Option α
 |[],l,k=>qT l (k [])
 |s::ss,l,k=>qf l λb bs=>kShD G s b λb=>kSh2 G ss bs λbs=>k (b::bs)
def kShp(ss:List BSh)(l:AH)(k:AH->Option α):Option α:=kSh1 ss l λG=>kSh2 G ss G k
def EVq(cf:Orac)(f:Nat)(args:List AV):Option (OV×AV):=(cf (.f f) args []).bind qn4
def kOwn(o:OV)(x:Option α)(k:Nat->List (List AV)->Nat->Nat->Option α):Option α:=
 match o with
 | .nil=>x
 | .own sz rs off len=>k sz rs off len
inductive MV where
 |unit
 |nil
 |sl (off len:Nat)
 |int (k:IntKind) (n:Int)
 |bool (b:Bool)
def mvOf:AV->Option MV
 | .tup []=>some .unit
 | .nilS=>some .nil
 | .ms id off len=>if qBh id 0 then some (.sl off len)else none
 | .int k n=>some (.int k n)
 | .bool b=>some (.bool b)
 |_=>none
def MV.av(id:Nat):MV->AV
 | .unit=>.tup []
 | .nil=>.nilS
 | .sl off len=>.ms id off len
 | .int k n=>.int k n
 | .bool b=>.bool b
def EVm(cf:Orac)(f:Nat)(args:List AV)(sz:Nat)(rs:List (List AV)):Option (MV×List (List AV)):=
 (cf (.f f) args [.rows true sz rs]).bind λr=>(qk1 sz r).bind λq=>(mvOf q.1).map λv=>(v,q.2)
def EVu(cf:Orac)(f:Nat)(args:List AV):Option MV:=(cf (.f f) args []).bind λr=>if r.1.refsLt 0 then mvOf r.1 else none
def kMSl(v:MV)(x:Option α)(k:Nat->Nat->Option α):Option α:=
 match v with
 | .nil=>x
 | .sl off len=>k off len
 |_=>none
def qa2(v:MV)(x:Option α):Option α:=
 match v with
 | .unit=>x
 |_=>none
def qcd(kd:IntKind)(v:MV)(k:Int->Option α):Option α:=
 match v with
 | .int q n=>cond (qa0 q kd) (k n) none
 |_=>none
def yc(v:MV)(k:Bool->Option α):Option α:=
 match v with
 | .bool b=>k b
 |_=>none
def qu4(cfg:Cfg)(ty:TypeId):Nat:=
 match cfg.td ty with
 |some (.slice _)=>1
 |some (.int _)=>2
 |some .bool=>3
 |_=>0
def qxY(cfg:Cfg)(ty:TypeId):IntKind:=
 match cfg.td ty with
 |some (.int k)=>k
 |_=>.i64
def qod(kd:Nat)(ik:IntKind)(id:Nat)(v:MV)(k:KV α):Option α:=
 match kd with
 |0=>qa2 v (k (.tup []))
 |1=>kMSl v (k .nilS) λoff len=>k (.ms id off len)
 |2=>qcd ik v λn=>k (.int ik n)
 |_=>yc v λb=>k (.bool b)
def qA5(cfg:Cfg)(f:FuncId):List Nat->List BSh
 |[]=>[]
 |_=>cfg.shp f
def qci(cfg:Cfg)(cf:Orac)(kf:KF α)(nid:Option Nat)(ty:TypeId)(t:Tgt)(args:List AV)(H:AH)(k:KH α):Option α:=
 match t with
 | .y id=>kf (.y id) args H λr=>kOpt (qay nid H.length r.1 r.2) λr=>kTy noTy cfg ty r.1 λv=>k v r.2
 | .f f=>
  match cfg.mode f with
  | .scal=>qof H args λal=>cond (qF 0 al) (match cfg.inl f with
   |some _=>kf (.f f) al [] λr=>kTy noTy cfg ty r.1 λv=>cond v.scalar (k v H) none
   |none=>kOpt (EVs cf f al) λv=>kTy noTy cfg ty v λv=>cond v.scalar (k v H) none) none
  | .pfrz=>cond (qF 0 (args.map AV.fg)) (match cfg.inl f with
   |some _=>kf (.f f) (args.map AV.fg) [] λr=>qce false r.2 r.1 λv=>kTy qgC cfg ty v λv=>cond (v.refsLt 0) (k v H) none
   |none=>kOpt (EVf cf f (args.map AV.fg)) λv=>kTy qgC cfg ty v λv=>cond (v.refsLt 0) (k v H) none) none
  | .pown=>match cfg.tup ty with
   |some [_,t2]=>cond (qF 0 args) (kOpt (EVq cf f args) λq=>kTy1 qgC cfg t2 q.2 λs=>kOwn q.1 (k (.tup [.nilS,s]) H) λsz rs off len=>kNew nid H (.rows true sz rs) λi H'=>k (.tup [.ms i off len,s]) H') none
   |_=>cond (qF 0 args) (match cfg.inl f with
   |some _=>kf (.f f) args [] λr=>kOpt (ovOf r) λo=>kOwn o (k .nilS H) λsz rs off len=>kNew nid H (.rows true sz rs) λi H'=>k (.ms i off len) H'
   |none=>kOpt (EVo cf f args) λo=>kOwn o (k .nilS H) λsz rs off len=>kNew nid H (.rows true sz rs) λi H'=>k (.ms i off len) H') none
  | .inpl=>
   match vt 0 args with
   |id::l=>cond (yp [id] l) (kOpt H[id]? λb=>match b with
     | .rows d sz rs=>cond (d||qV 0 rs) (kOpt (EVm cf f (renL (λ_=>0) args) sz rs) λq=>qod (qu4 cfg ty) (qxY cfg ty) id q.1 λv=>k v (H.set id (.rows true sz q.2))) none
     |_=>none) none
   |[]=>cond (qF 0 args) (kOpt (EVu cf f args) λv=>qod (qu4 cfg ty) (qxY cfg ty) 0 v λv=>k v H) none
  | .imp=>kf (.f f) args H λr=>kOpt (qay nid H.length r.1 r.2) λr=>kTy noTy cfg ty r.1 λv=>k v r.2
  | .inpf=>
   match vt 0 args with
   |id::l=>cond (yp [id] l) (kOpt H[id]? λb=>match b with
     | .rows d sz rs=>cond (d||qV 0 rs) (kOpt (EVd cf f (renL (λ_=>0) args) sz rs) λq=>kTy qgC cfg ty q.1 λv=>k v (H.set id (.rows true sz q.2))) none
     |_=>none) none
   |[]=>none
  | .slf=>
   match vt 0 args with
   |id::l=>cond (yp [id] l) (kOpt H[id]? λb=>match b with
     | .rows _ sz rs=>cond (yp [id] (yf 0 rs)) (kOpt (EVk cf f (renL (λ_=>0) args) sz (renR (λ_=>0) rs)) λq=>kTy qgC cfg ty q λv=>k v (H.set id (.rows false sz (renR (λ_=>id) (renR (λ_=>0) rs))))) none
     |_=>none) none
   |[]=>none
  | .obj=>kOpt (qet H args) λs=>cond (qBv (objK (cfg.okeep f) (renL (vE 0 s.1) args)) s.1.length)
    (kOpt (EVj cf f (objK (cfg.okeep f) (renL (vE 0 s.1) args)) (qn6 (objK (cfg.okeep f) (renL (vE 0 s.1) args)) (cfg.olift f) (renL (vE 0 s.1) args) s.2).1 (qn6 (objK (cfg.okeep f) (renL (vE 0 s.1) args)) (cfg.olift f) (renL (vE 0 s.1) args) s.2).2) λq=>
     kShp (qA5 cfg f s.1) q.2 λG=>kOpt (zv nid H (G.length - objK (cfg.okeep f) (renL (vE 0 s.1) args))) λp=>kTy qgC cfg ty q.1 λv=>
      k ((v.ren (yJ (objK (cfg.okeep f) (renL (vE 0 s.1) args)) s.1.length)).ren (yP (s.1++p.1))) (qau p.2 (s.1++p.1) (yv (objK (cfg.okeep f) (renL (vE 0 s.1) args)) s.1.length G))) none
open Classical in
def kEqR {β:Type} (a b:β) (x:Option α):Option α:=if a=b then x else none
theorem qeH{β:Type}(a:β)(x:Option α):kEqR a a x=x:=qB5 rfl
def qcI(n:Nat)(x y:Option α):Option α:=match n with|0=>x|_+1=>y
def qlx(cfg:Cfg)(cf:Orac)(kf:KF α)(nid:Option Nat)(ty:TypeId)(t:Tgt)(args:List AV)(H:AH)(k:KH α):Option α:=
 match qaw cfg t args with
 |some n=>qcI n (qci cfg cf kf nid ty t [.nilS] H λv H1=>qci cfg cf kf nid ty t [.em] H λv2 H2=>kEqR (v,H1) (v2,H2) (k v H1)) (qci cfg cf kf nid ty t args H k)
 |none=>qci cfg cf kf nid ty t args H k
def kTgt(f:AV)(args:List AV)(k:Tgt->List AV->Option α):Option α:=
 match f with
 | .fn (.func g) first caps=>k (.f g) (first++args++caps)
 | .yld id=>k (.y id) args
 |_=>none
def opEq:Operand->Operand->Bool
 | .tmp a,.tmp b=>qBh a b
 |_,_=>false
def frzX:List Operand->List AV->(Operand->AV)->Operand->AV
 |b::l,v::al,x,a=>cond (opEq b a) v (frzX l al x a)
 |_,_,x,a=>x a
def qoe(cfg:Cfg)(nid:Option Nat)(o:Oper)(x:Operand->AV)(H:AH)(k:KH α):Option α:=
 qhI H (o.op.operands.toList.map x) λal=>
  kOp cfg nid o.op o.type (frzX o.op.operands.toList al λa=>(x a).frz (o.op.operands.toList.flatMap λa=>(x a).msIds) H) (vm (o.op.operands.toList.flatMap λa=>(x a).msIds) H) k
def qll(cfg:Cfg)(cf:Orac)(kf:KF α)(frz:Bool)(nid:Option Nat)(o:Oper)(x:Operand->AV)(H:AH)(k:KH α):Option α:=
 cond frz
  (match o.op with
   | .call c=>
    match c.callee with
    | .value f=>qhI H (c.args.toList.map x) λal=>kTgt ((x f).frz (o.op.operands.toList.flatMap λa=>(x a).msIds) H) al λt al=>
      qlx cfg cf kf nid o.type t al (vm (o.op.operands.toList.flatMap λa=>(x a).msIds) H) k
    |_=>qoe cfg nid o x H k
   |_=>qoe cfg nid o x H k)
  (match o.op with
   | .call c=>
    match c.callee with
    | .value f=>kTgt (x f) (c.args.toList.map x) λt al=>qlx cfg cf kf nid o.type t al H k
    |_=>kOp cfg nid o.op o.type x H k
   |_=>kOp cfg nid o.op o.type x H k)
def qfG(ops:Array Oper)(fr:List AV)(o:Oper)(k:Bool->List AV->Option α):Option α:=
 match o.guard with
 |none=>k true fr
 |some (j,want)=>
  match(ops[j]?).bind (·.dst)with
  |some d=>kOpt fr[d]? λv=>match v with
   | .tup l=>(match l with|[]=>k false fr|_=>none)
   |v=>qu v λb=>cond b (k want (fr.set d (.bool true))) (k (!want) (fr.set d (.bool false)))
  |none=>none
def kOps(cfg:Cfg)(cf:Orac)(kf:KF α)(f rid:Nat)(ops:Array Oper):Nat->List Oper->List AV->AH->(List AV->AH->Option α)->Option α
 |_,[],fr,H,k=>k fr H
 |n,o::rest,fr,H,k=>qfG ops fr o λb fr=>
   cond b (qll cfg cf kf (cfg.frz f rid n) none o (opd fr) H λv H'=>kOps cfg cf kf f rid ops (n+1) rest (put fr o.dst v) H' k) (kOps cfg cf kf f rid ops (n+1) rest (put fr o.dst (.tup [])) H k)
def qlw(cfg:Cfg)(cf:Orac)(kf:KF α)(f rid:Nat)(ops:Array Oper):Nat->Nat->List Oper->List AV->AH->(List DR->List AV->AH->Option α)->Option α
 |_,_,[],fr,H,k=>k [] fr H
 |n,at_,o::rest,fr,H,k=>qfG ops fr o λb fr=>
   cond b
    (qll cfg cf kf (cfg.frz f rid n) (some at_) o (opd fr) H λv H'=>
     qlw cfg cf kf f rid ops (n+1) (at_+qc4 cfg o) rest (put fr o.dst v) H' λfps fr' H''=>k (drOf cfg (cfg.frz f rid n) at_ o (opd fr) H v H'::fps) fr' H'')
    (qlw cfg cf kf f rid ops (n+1) (at_+qc4 cfg o) rest (put fr o.dst (.tup [])) H λfps fr' H''=>k (drNo H::fps) fr' H'')
open Classical in
def CUT {β:Type} (p:β):Option β:=if ∃q:β,some q=some p then some p else none
theorem qAt{β:Type}(p:β):CUT p=some p:=qB5 ⟨p,rfl⟩
def xa(ts:Option (List Tmp))(fr:List AV)(H:AH)(g:List AV->AH->Option α):Option α:=
 match ts with
 |none=>g fr H
 |some ks=>kOpt (CUT (vW (some ks) fr,H)) λp=>g p.1 p.2
theorem qq8{ts:Option (List Tmp)}{fr:List AV}{H:AH}{g:List AV->AH->Option α}{r:α}(h:xa ts fr H g=some r):g (vW ts fr) H=some r:=by
 cases ts with
 |none=>exact h
 |some ks=>
  have h:kOpt (CUT (vW (some ks) fr,H)) (λp=>g p.1 p.2)=some r:=h;rw[qAt]at h;exact h
def kSeq(nx:List AV->AH->Option α)(k:KE α):KE α:=λe fr H=>
 match e with
 | .normal=>nx fr H
 |e=>k e fr H
def vP(id:Nat)(k:KE α):KE α:=λe fr H=>
 match e with
 | .exit id'=>cond (qBh id' id) (k .normal fr H) (k (.exit id') fr H)
 |e=>k e fr H
def qfH(k:KE α):KE α:=λe fr H=>
 match e with
 | .goto _=>none
 |e=>k e fr H
def kAft(ts:Option (List Tmp))(k:KE α)(r:Ex×List AV×AH):Option α:=k r.1 (vW ts r.2.1) r.2.2
def known(fr:List AV)(c:Operand)(b:Bool):List AV:=
 match c with
 | .tmp d=>fr.set d (.bool b)
 |_=>fr
def qx0(b:ABlk)(k:Option Code->Option α):Option α:=
 match b with
 | .loop _ _ _ _ _ pend st=>(match st with| .busy=>none|_=>k pend)
 |_=>none
def qph(pend:Option Code)(k:KE α)(fr:List AV)(H:AH):Option α:=
 match pend with
 |none=>k .normal fr H
 |some c=>(match c with| .ret=>k .ret fr H| .exit id=>k (.exit id) fr H|_=>none)
def ym(bs n:Nat)(fr:List AV)(k:KE α)(H:AH):Option α:=
 kOpt H[n]? λb=>qx0 b λpend=>qph pend k (gc bs fr (H.set n .dead)).1 (gc bs fr (H.set n .dead)).2
def qvq(cfg:Cfg)(_cf:Orac)(kf:KF α)(f:Nat)(rd:Option Nat)(bs:Nat)(g:AV)(ps:List Tmp)(assign body:Code)(fr:List AV)(H:AH)(k:KE α):Option α:=
 cond (qoW rd H)
  (match g with
   | .fn (.func h) first caps=>cond (cfg.ext h).isNone
     (kf (.f h) (first++[.yld H.length]++caps) (H++[.loop f (vW (cfg.keepIn f (qk body)) fr) ps assign body none .ready]) λr=>
      ym bs H.length (vW (cfg.keepOut f (qk body)) fr) k r.2) none
   |_=>none) none
def kOrd(cfg:Cfg)(cf:Orac)(kf:KF α)(f rid:Nat)(ops:Array Oper):List (Nat×Oper)->List AV->AH->(List AV->AH->Option α)->Option α
 |[],fr,H,k=>k fr H
 |p::rest,fr,H,k=>qfG ops fr p.2 λb fr=>
   cond b (qll cfg cf kf (cfg.frz f rid p.1) none p.2 (opd fr) H λv H'=>kOrd cfg cf kf f rid ops rest (put fr p.2.dst v) H' k) (kOrd cfg cf kf f rid ops rest (put fr p.2.dst (.tup [])) H k)
def qs8{β:Type}(F:β->KE α->Option α)(g:Ex->List AV->AH->Ex×List AV×AH)(r:Ex×List AV×AH):List β->Option α->Option α
 |[],x=>x
 |q::l,x=>F q λe fr H=>kEqR r (g e fr H) (qs8 F g r l x)
def qx2{β:Type}(F:β->KE α->Option α)(g:Ex->List AV->AH->Ex×List AV×AH)(k:KE α):List β->Option α
 |[]=>none
 |q::l=>F q λe fr H=>qs8 F g (g e fr H) l (k (g e fr H).1 (g e fr H).2.1 (g e fr H).2.2)
def vh(cfg:Cfg)(cf:Orac)(kf:KF α)(f:Nat)(rd:Option Nat)(bs:Nat):Code->List AV->AH->KE α->Option α
 | .skip,fr,H,k=>k .normal fr H
 | .label _,fr,H,k=>k .normal fr H
 | .region id ops draw,fr,H,k=>
  cond draw
   (cond (qa4 ops)
    (qlw cfg cf kf f id ops 0 H.length ops.toList fr (H++qBI (places cfg ops.toList) .res) λfps fr' H'=>cond (qdM (ancs [] ops.toList) (H++qBI (places cfg ops.toList) .res) fps) (k .normal fr' H') none) none)
   (kOps cfg cf kf f id ops 0 ops.toList fr H λfr' H'=>k .normal fr' H')
 | .seq a b,fr,H,k=>
  match qdb a with
  |some p=>
   match qio p.2 p.2.size []with
   |some O=>qx2 (λo k=>kOrd cfg cf kf f p.1 p.2 o fr H λfr H=>vh cfg cf kf f rd bs b (vW (cfg.cut f (qk b)) fr) H k) (λe fr H=>qiw bs (dsts a++dsts b) (e,fr,H)) k O
   |none=>none
  |none=>vh cfg cf kf f rd bs a fr H (kSeq (λfr H=>xa (cfg.cut f (qk b)) fr H λfr H=>vh cfg cf kf f rd bs b fr H k) k)
 | .cond c a b,fr,H,k=>qu (opd fr c) λt=>cond t (vh cfg cf kf f rd bs a (known fr c true) H k) (vh cfg cf kf f rd bs b (known fr c false) H k)
 | .block id a,fr,H,k=>vh cfg cf kf f rd bs a fr H (vP id k)
 | .loop a,fr,H,k=>kOpt (LOOP bs (cfg.keepIn f (qk a)) (cfg.lift f (qk a)) (evC cfg cf f rd bs a) (yY bs (cfg.keepIn f (qk a)) (cfg.lift f (qk a)) fr H)) (kAft (cfg.keepOut f (qk a)) k)
 | .scope a,fr,H,k=>vh cfg cf kf f rd bs a fr H (qfH k)
 | .exit id,fr,H,k=>k (.exit id) fr H
 | .goto _,_,_,_=>none
 | .ret,fr,H,k=>k .ret fr H
 | .rangeFunc g ps assign body,fr,H,k=>qvq cfg cf kf f rd bs (opd (vT (cfg.lift f (qk body)) fr H).1 g) ps.toList assign body (vT (cfg.lift f (qk body)) fr H).1 (vT (cfg.lift f (qk body)) fr H).2 k
 | .refuse _,_,_,_=>none
inductive Ko where
 |seq (c:Code)
 |block (id:Nat)
 |scope
def kRun(cfg:Cfg)(cf:Orac)(kf:KF α)(f:Nat)(rd:Option Nat)(bs:Nat)(k:KE α):List Ko->KE α
 |[]=>k
 | .seq c::s=>kSeq (λfr H=>xa (cfg.cut f (qk c)) fr H λfr H=>vh cfg cf kf f rd bs c fr H (kRun cfg cf kf f rd bs k s)) (kRun cfg cf kf f rd bs k s)
 | .block id::s=>vP id (kRun cfg cf kf f rd bs k s)
 | .scope::s=>qfH (kRun cfg cf kf f rd bs k s)
def kRes(cfg:Cfg)(fr:List AV)(H:AH):List ResultVar->(List AV->Option α)->Option α
 |[],k=>k []
 | .tmp t::l,k=>kRes cfg fr H l λvs=>k (fr.getD t .junk::vs)
 | .cell a t::l,k=>
  match cfg.ty t with
  |some ti=>qlp ti.d.agg ti.sz H (fr.getD a .junk) λv=>kTy noTy cfg t v λv=>kRes cfg fr H l λvs=>k (v::vs)
  |none=>none
variable {α : Type} {r : α} {H : AH}
theorem qm{b:Bool}{x:Option α}(h:cond b x none=some r):b=true∧x=some r:=by cases b<;>simp_all
theorem qtG{b:Bool}{x:Option α}(h:cond b none x=some r):b=false∧x=some r:=by cases b<;>simp_all
theorem yx{b:Bool}{x y:Option α}(h:cond b x y=some r):(b=true∧x=some r)∨(b=false∧y=some r):=by cases b<;>simp_all
theorem qhB{a b:IntKind}(h:qa0 a b=true):a=b:=by simpa [qa0]using h
theorem xi{a b:Int}:qh a b=true↔a<=b:=by simp[qh]
theorem qaZ{a b:Int}:qn a b=true↔a<b:=by simp[qn]
theorem qc5{kd:IntKind}{v:AV}{k:Int->Option α}(h:kInt kd v k=some r):∃n,v= .int kd n∧k n=some r:=by
 unfold kInt at h;split at h
 ·obtain⟨h1,h2⟩:=qm h;rw[qhB h1];exact⟨_,rfl,h2⟩
 ·cases h
theorem qdw{v:AV}{k:Bool->Option α}(h:qu v k=some r):∃b,v= .bool b∧k b=some r:=by
 unfold qu at h;split at h
 ·exact⟨_,rfl,h⟩
 ·cases h
theorem qa1{v:AV}{k:List UInt8->Option α}(h:kStr v k=some r):∃b,v= .str b∧k b=some r:=by
 unfold kStr at h;split at h
 ·exact⟨_,rfl,h⟩
 ·cases h
theorem qeJ{v:AV}{k:List AV->Option α}(h:kAgg v k=some r):∃b,v= .agg b∧k b=some r:=by
 unfold kAgg at h;split at h
 ·exact⟨_,rfl,h⟩
 ·cases h
theorem qH{β:Type}{o:Option β}{k:β->Option α}(h:kOpt o k=some r):∃b,o=some b∧k b=some r:=by
 unfold kOpt at h;split at h
 ·exact⟨_,rfl,h⟩
 ·cases h
theorem qal{l:List AV}{k:AV->List AV->Option α}(h:qa l k=some r):∃a b,l=a::b∧k a b=some r:=by
 unfold qa at h;split at h
 ·exact⟨_,_,rfl,h⟩
 ·cases h
theorem qeG{l:List AV}{x:Option α}(h:kNil l x=some r):l=[]∧x=some r:=by
 unfold kNil at h;split at h
 ·exact⟨rfl,h⟩
 ·cases h
theorem qe9{s:FK}{v:AV}{k:KV α}(h:qbs s v k=some r):k v=some r:=by
 cases s with
 |int kd=>obtain⟨n,rfl,h1⟩:=qc5 h;exact h1
 |bool=>obtain⟨n,rfl,h1⟩:=qdw h;exact h1
 |str=>obtain⟨n,rfl,h1⟩:=qa1 h;exact h1
 |sl=>
  have h:kSl v (λrows=>k (.sl rows))=some r:=h;unfold kSl at h;split at h
  ·exact h
  ·cases h
 |any=>exact h
theorem qfa:∀{ss:List FK} {l:List AV} {k:List AV->Option α},qch ss l k=some r->k l=some r
 |[],l,k,h=>by
  obtain⟨rfl,h1⟩:=qeG h;exact h1
 |s::ss,l,k,h=>by
  obtain⟨a,b,rfl,h1⟩:=qal h;exact qfa (k:=λvs=>k (a::vs)) (qe9 (k:=λv=>qch ss b λvs=>k (v::vs)) h1)
theorem qtg{l0:List AV}{k:List AV->Option α}(h0:qch [.int .i64,.int .i64,.str,.sl] l0 k=some r):qcr l0=true∧k l0=some r:=by
 refine⟨?_,qfa h0⟩;simp only[qch]at h0;obtain⟨a,l1,rfl,h1⟩:=qal h0;obtain⟨n,rfl,h2⟩:=qc5 (k:=λn=>qa l1 λc cs=>qbs (.int .i64) c λv=>qa cs λc cs=>qbs .str c λv1=>qa cs λc cs=>qbs .sl c λv2=>kNil cs (k [.int .i64 n,v,v1,v2])) h1;obtain⟨a,l2,rfl,h3⟩:=qal h2;obtain⟨m,rfl,h4⟩:=qc5 (k:=λm=>qa l2 λc cs=>qbs .str c λv1=>qa cs λc cs=>qbs .sl c λv2=>kNil cs (k [.int .i64 n,.int .i64 m,v1,v2])) h3
 obtain⟨a,l3,rfl,h5⟩:=qal h4;obtain⟨s,rfl,h6⟩:=qa1 (k:=λs=>qa l3 λc cs=>qbs .sl c λv2=>kNil cs (k [.int .i64 n,.int .i64 m,.str s,v2])) h5;obtain⟨a,l4,rfl,h7⟩:=qal h6;have h8:kSl a (λrows=>kNil l4 (k [.int .i64 n,.int .i64 m,.str s,.sl rows]))=some r:=h7;unfold kSl at h8;split at h8
 ·obtain⟨rfl,_⟩:=qeG h8;rfl
 ·cases h8
theorem qeE{p:TypeId->Bool}{cfg:Cfg}{t:TypeId}{v:AV}{k:KV α}(h:kTy1 p cfg t v k=some r):k v=some r:=by
 unfold kTy1 at h;have agg:∀{ss:List FK},(kAgg v λcs=>qch ss cs λvs=>k (.agg vs))=some r->k v=some r:=by
  intro ss h;obtain⟨cs,rfl,h⟩:=qeJ h;exact qfa (k:=λvs=>k (.agg vs)) h
 split at h
 ·split at h
  ·split at h
   ·exact agg h
   ·exact h
  ·split at h
   ·exact agg h
   ·exact h
  ·exact qe9 h
 ·exact h
theorem qnf{p:TypeId->Bool}{cfg:Cfg}:∀{ts:List TypeId} {l:List AV} {k:List AV->Option α},kTys p cfg ts l k=some r->k l=some r
 |[],l,k,h=>by
  rw[kTys]at h;obtain⟨h1,h2⟩:=qeG h;rw[h1];exact h2
 |t::ts,l,k,h=>by
  rw[kTys]at h;obtain⟨a,b,rfl,h⟩:=qal h;have h1:=qeE (k:=λv=>kTys p cfg ts b λvs=>k (v::vs)) h;exact qnf (k:=λvs=>k (a::vs)) h1
theorem xl{p:TypeId->Bool}{cfg:Cfg}{t:TypeId}{v:AV}{k:KV α}(h:kTy p cfg t v k=some r):k v=some r:=by
 unfold kTy at h;split at h
 ·unfold kTup at h;split at h
  ·exact qnf (k:=λvs=>k (.tup vs)) h
  ·cases h
 ·exact qeE h
theorem yL{nid:Option Nat}{b:ABlk}{k:Nat->AH->Option α}(h:kNew nid H b k=some r):∃i H',aNew nid H b=some (i,H')∧k i H'=some r:=by
 unfold kNew at h;unfold aNew;cases nid with
 |none=>exact⟨_,_,rfl,h⟩
 |some i=>
  simp only at h⊢;obtain⟨x,hx,h⟩:=qH h;rw[hx];split at h
  ·exact⟨_,_,rfl,h⟩
  ·cases h
theorem qps{v:AV}(h:v.isCell=true):v.cells=some [v]:=by cases v<;>simp_all [AV.isCell,AV.cells]
theorem qbE{agg:Bool}{v:AV}{k:List AV->Option α}(h:qcx agg v k=some r):∃cs,v.cells=some cs∧k cs=some r:=by
 unfold qcx at h;rcases yx h with⟨_,h⟩|⟨_,h⟩
 ·obtain⟨cs,rfl,h⟩:=qeJ h;obtain⟨h1,h2⟩:=qm h;exact⟨cs,by simp[AV.cells,h1],h2⟩
 ·obtain⟨h1,h2⟩:=qm h;exact⟨_,qps h1,h2⟩
theorem qs9{t:Bool}{a b:AV}{k:KV α}(h:qta t a b k=some r):k (if t then a else b)=some r:=by
 have sp:∀{a b:AV},cond t (k a) (k b)=some r->k (if t then a else b)=some r:=by
  intro a b h;cases t<;>simpa using h
 unfold qta at h;split at h
 ·cases t<;>simpa using h
 ·rcases yx h with⟨h1,h⟩|⟨_,h⟩
  ·have:=qhB h1;subst this;cases t<;>simpa using h
  ·exact sp h
 ·exact sp h
theorem qgm{place:Nat->Option (Nat×Nat×Bool)}{place':Nat->Option (Nat×Nat)}(hp:∀i off n g,place i=some (off,n,g)->place' i=some (off,n)):∀{parts:List (Nat×AV)} {cells:List AV} {k:List AV->Option α},
  qlu place cells parts k=some r->∃cs,qcX place' cells parts=some cs∧k cs=some r
 |[],cells,k,h=>⟨cells,rfl,h⟩
 |(i,v)::rest,cells,k,h=>by
  rw[qlu]at h;split at h
  ·rename_i off n g hi;obtain⟨cs,h1,h⟩:=qbE h;obtain⟨h2,h⟩:=qm h;obtain⟨cs',h3,h4⟩:=qgm hp h;refine⟨cs',?_,h4⟩;rw[qBi]at h2;rw[qcX,hp _ _ _ _ hi,h1];simp only;rw[qB5]
   ·exact h3
   ·rw[qBi,beq_iff_eq];exact⟨qBo h2.1,h2.2⟩
  ·cases h
theorem qkV{cfg:Cfg}:∀{fs:List (Nat×TypeId)} {ps:List (Nat×Nat×Bool)},qim cfg fs=some ps->∃qs,qaV cfg fs=some qs∧∀(i off n:Nat) (g:Bool),ps[i]? =some (off,n,g)->qs[i]? =some (off,n)
 |[],ps,h=>by cases h;exact⟨[],rfl,λi off n g h=>by simp at h⟩
 |(off,t)::l,ps,h=>by
  rw[qim]at h;split at h
  ·rename_i n ps' h1 h2;cases h;obtain⟨qs,h3,h4⟩:=qkV h2;refine⟨(off,n)::qs,by rw[qaV,h1,h3],λi o m g hi=>?_⟩;cases i with
   |zero=>simp at hi⊢;exact⟨hi.1,hi.2.1⟩
   |succ i=>simpa using h4 i o m g (by simpa using hi)
  ·cases h
theorem qlj{agg:Bool}{n:Nat}:∀{parts:List (Nat×AV)} {rows:List (List AV)} {k:List (List AV)->Option α},qob agg n rows parts k=some r->∃rs,qcq n rows parts=some rs∧k rs=some r
 |[],rows,k,h=>⟨rows,rfl,h⟩
 |(i,v)::rest,rows,k,h=>by
  rw[qob]at h;obtain⟨cs,h1,h⟩:=qbE h;obtain⟨h2,h⟩:=qm h;obtain⟨rs,h3,h4⟩:=qlj h;refine⟨rs,?_,h4⟩;rw[qBi]at h2;rw[qcq,h1];simp only;rw[qB5]
  ·exact h3
  ·rw[qBi,beq_iff_eq];exact⟨qBo h2.1,h2.2⟩
theorem qa3{id:Nat}{k:Nat->List (List AV)->Option α}(h:kBlk H id k=some r):∃sz rs,vB H id=some (sz,rs)∧k sz rs=some r:=by
 unfold kBlk at h;obtain⟨b,hb,h⟩:=qH h;unfold vB;rw[hb];split at h
 ·exact⟨_,_,rfl,h⟩
 ·exact⟨_,_,rfl,h⟩
 ·cases h
theorem qcf{g s:Bool}{v:AV}{k:KV α}(h:qls g s H v k=some r):(∀ids,(∀id off len,v= .ms id off len->id∈ids)->s=false->k (cond g (v.frz1 ids H).fg1 (v.frz1 ids H))=some r)∧(s=true->k (cond g (v.snap1 H).fg1 (v.snap1 H))=some r):=by
 unfold qls at h;split at h
 ·rename_i id off len;obtain⟨sz,rs,h1,h⟩:=qa3 h;rcases hc:(qBv (off+len) rs.length&&(xZ H id||qV 0 ((rs.drop off).take len)))with _|_
  ·rw[hc]at h;cases h
  ·rw[hc]at h;have h:k (.sl ((rs.drop off).take len))=some r:=h;have aux:∀ids:List Nat,id∈ids->(AV.ms id off len).frz1 ids H= .sl ((rs.drop off).take len):=by
    intro ids hi;simp only[AV.frz1,h1];rw[qB5];rw[Bool.and_assoc,hc,Bool.and_true];exact vZ.2 hi
   refine⟨λids hi _=>?_,λ_=>?_⟩
   ·rw[aux ids (hi _ _ _ rfl)];cases g<;>exact h
   ·simp only[AV.snap1];rw[aux [id] (by simp)];cases g<;>exact h
 ·refine⟨λids _ _=>?_,λ_=>?_⟩<;>(cases g<;>exact h)
 ·refine⟨λids _ _=>?_,λ_=>?_⟩<;>(cases g<;>exact h)
 ·split at h
  ·refine⟨λids _ _=>?_,λ_=>?_⟩<;>(cases g<;>exact h)
  ·cases h
 ·rename_i id r' off;cases s with
  |false=>exact⟨λids _ _=>by cases g<;>exact h,λh=>by cases h⟩
  |true=>
   refine⟨λ_ _ h=>by(cases h),λ_=>?_⟩;obtain⟨sz,rs,h1,h⟩:=qa3 h;obtain⟨row,h2,h⟩:=qH h;obtain⟨h3,h⟩:=qm h;simp only[AV.snap1,h1,h2,qlY,h3,if_true];cases g<;>exact h
 ·rename_i id rows;cases s with
  |false=>exact⟨λids _ _=>by cases g<;>exact h,λh=>by cases h⟩
  |true=>
   refine⟨λ_ _ h=>by(cases h),λ_=>?_⟩;obtain⟨b,h1,h⟩:=qH h;split at h
   ·simp only[AV.snap1,h1];cases rows<;>cases g<;>exact h
   ·cases h
 ·rename_i hn1 hn2 hn4 hn6 hn3 hn5;refine⟨λids _ _=>?_,λ_=>?_⟩
  ·have:v.frz1 ids H=v:=by
    cases v<;>first|rfl|exact absurd rfl (hn1 _ _ _)
   rw[this];have:v.fg1=v:=by
    cases v<;>first|rfl|exact absurd rfl hn2|exact absurd rfl hn4|exact absurd rfl (hn6 _ _)
   rw[this];cases g<;>exact h
  ·have:v.snap1 H=v:=by
    cases v<;>first|rfl|exact absurd rfl (hn1 _ _ _)|exact absurd rfl (hn3 _ _ _)|exact absurd rfl (hn5 _ _)
   rw[this];have:v.fg1=v:=by
    cases v<;>first|rfl|exact absurd rfl hn2|exact absurd rfl hn4|exact absurd rfl (hn6 _ _)
   rw[this];cases g<;>exact h
theorem qc6{g:Bool}{ids:List Nat}:∀{l:List AV} {k:List AV->Option α},(∀v∈l,∀id off len,v= .ms id off len->id∈ids)->qbD g false H l k=some r->k (l.map λv=>cond g (v.frz1 ids H).fg1 (v.frz1 ids H))=some r
 |[],k,_,h=>h
 |a::l,k,hi,h=>by
  rw[qbD]at h;have h1:=(qcf h).1 ids (hi a (by simp)) rfl;exact qc6 (k:=λl=>k (cond g (a.frz1 ids H).fg1 (a.frz1 ids H)::l)) (λv hv=>hi v (by simp[hv])) h1
theorem qdu{g:Bool}:∀{l:List AV} {k:List AV->Option α},qbD g true H l k=some r->k (l.map λv=>cond g (v.snap1 H).fg1 (v.snap1 H))=some r
 |[],k,h=>h
 |a::l,k,h=>by
  rw[qbD]at h;have h1:=(qcf h).2 rfl;exact qdu (k:=λl=>k (cond g (a.snap1 H).fg1 (a.snap1 H)::l)) h1
theorem qeA{l:List AV}{v:AV}(hv:v∈l){id off len:Nat}(h:v= .ms id off len):id∈l.flatMap AV.msId:=by
 subst h;exact List.mem_flatMap.2 ⟨_,hv,by simp[AV.msId]⟩
theorem qbU{v:AV}{k:KV α}(h:qce false H v k=some r):k (v.frz v.msIds H).fg=some r:=by
 unfold qce at h;split at h
 ·rename_i cs;have:=qc6 (ids:=cs.flatMap AV.msId) (λv hv id off len e=>qeA hv e) h
  simpa [AV.frz,AV.fg,AV.msIds,Function.comp_def]using this
 ·rename_i cs;have:=qc6 (k:=λcs=>k (.tup cs)) (ids:=cs.flatMap AV.msId) (λv hv id off len e=>qeA hv e) h
  simpa [AV.frz,AV.fg,AV.msIds,Function.comp_def]using this
 ·exact h
 ·rename_i h1 h2 h3;have h4:=(qcf h).1 v.msIds (λid off len e=>by subst e;simp[AV.msIds,AV.msId]) rfl;have e1:v.frz v.msIds H=v.frz1 v.msIds H:=by
   cases v<;>first|rfl|exact absurd rfl (h1 _)|exact absurd rfl (h2 _)
  have e2:(v.frz1 v.msIds H).fg=(v.frz1 v.msIds H).fg1:=by
   cases v<;>first|rfl|exact absurd rfl (h1 _)|exact absurd rfl (h2 _)|skip
   simp only[AV.frz1];split
   ·split<;>rfl
   ·rfl
  rw[e1,e2];exact h4
theorem qtc{v:AV}{k:KV α}(h:qce true H v k=some r):k (v.snap H).fg=some r:=by
 unfold qce at h;split at h
 ·rename_i cs;have:=qdu h
  simpa [AV.snap,AV.fg,Function.comp_def]using this
 ·exact h
 ·rename_i f a b;have h2:=qdu (k:=λa=>qbD false true H b λb=>k (.fn f a b)) h;have h3:=qdu (k:=λb=>k (.fn f (a.map (AV.snap1 H)) b)) h2;exact h3
 ·rename_i h1 h2 h3;have h4:=(qcf h).2 rfl;have e1:v.snap H=v.snap1 H:=by
   cases v<;>first|rfl|exact absurd rfl (h1 _)|exact absurd rfl (h3 _ _ _)
  have e2:(v.snap1 H).fg=(v.snap1 H).fg1:=by
   cases v<;>first|rfl|exact absurd rfl (h1 _)|exact absurd rfl (h2 _)|skip
   ·simp only[AV.snap1,AV.frz1];split
    ·split<;>rfl
    ·rfl
   ·simp only[AV.snap1];split
    ·split<;>rfl
    ·rfl
   ·simp only[AV.snap1];split<;>rfl
  rw[e1,e2];exact h4
theorem qly:∀{l:List AV} {k:List AV->Option α},qof H l k=some r->k (l.map λa=>(a.snap H).fg)=some r
 |[],k,h=>h
 |a::l,k,h=>by
  rw[qof]at h;have h1:=qtc h;exact qly (k:=λl=>k ((a.snap H).fg::l)) h1
theorem qbh{id:Nat}{k:Bool->Nat->List (List AV)->Option α}(h:qeI H id k=some r):∃d sz rs,H[id]? =some (.rows d sz rs)∧k d sz rs=some r:=by
 unfold qeI at h;obtain⟨b,hb,h⟩:=qH h;split at h
 ·exact⟨_,_,_,hb,h⟩
 ·cases h
theorem zA{agg:Bool}{n off:Nat}{cells:List AV}{k:KV α}(h:qcH agg n cells off k=some r):
  ∃v,(if agg then(if qBv (off+n) cells.length then some (AV.agg ((cells.drop off).take n))else none)else cells[off]?)=some v∧k v=some r:=by
 unfold qcH at h;rcases yx h with⟨rfl,h⟩|⟨rfl,h⟩
 ·obtain⟨h1,h2⟩:=qm h;exact⟨_,by simp[h1],h2⟩
 ·obtain⟨v,h1,h2⟩:=qH h;exact⟨v,by simp[h1],h2⟩
theorem qgj{agg:Bool}{n:Nat}{p:AV}{k:KV α}(h:qlp agg n H p k=some r):∃v,qar agg n H p=some v∧k v=some r:=by
 unfold qlp at h;unfold qar;split at h
 ·obtain⟨sz,rs,h1,h⟩:=qa3 h;obtain⟨row,h2,h⟩:=qH h;obtain⟨v,h3,h4⟩:=zA h;exact⟨v,by simp only[h1,h2];exact h3,h4⟩
 ·obtain⟨v,h3,h4⟩:=zA h;exact⟨v,h3,h4⟩
 ·obtain⟨v,h3,h4⟩:=zA h;refine⟨v,?_,h4⟩;rw[←h3];simp only[qBE,List.map_take,List.map_drop,List.getElem?_map]
 ·obtain⟨b,h1,h⟩:=qH h;split at h
  ·obtain⟨v,h3,h4⟩:=zA h;refine⟨v,?_,h4⟩;simp only[h1];rw[←h3];simp only[qBE,List.map_take,List.map_drop,List.getElem?_map]
  ·simp only[h1];rcases yx h with⟨ha,h⟩|⟨ha,h⟩
   ·obtain⟨h2,h⟩:=qm h;obtain⟨h3,h⟩:=qtg h;exact⟨_,by rw[qB5 ha,qB5 (by rw[h2,h3];rfl)],h⟩
   ·obtain⟨rows,h2,h⟩:=qH h;exact⟨_,by rw[qB6 (by rw[ha];simp)];unfold qmk;rw[h2];rfl,h⟩
  ·cases h
 ·cases h
theorem qq2{agg:Bool}{n:Nat}{p v:AV}{k:AH->Option α}(h:qpe agg n H p v k=some r):∃H',qae n H p v=some H'∧k H'=some r:=by
 unfold qpe at h;unfold qae;split at h
 ·obtain⟨cs,h1,h⟩:=qbE h;obtain⟨d,sz,rs,h2,h⟩:=qbh h;obtain⟨row,h3,h⟩:=qH h;obtain⟨h4,h⟩:=qm h;rw[qBi]at h4;refine⟨_,?_,h⟩;simp only[h1,h2,h3];rw[qB5];rw[qBi,beq_iff_eq];exact⟨qBo h4.1,h4.2⟩
 ·obtain⟨b,h1,h⟩:=qH h;split at h
  ·rcases yx h with⟨h4,h⟩|⟨h4,h⟩
   ·obtain⟨h2,h⟩:=qm h;refine⟨H,?_,h⟩;have h77:is77 v=true:=by rw[qBi]at h2;exact h2.2
    have hv:∃cs,v.cells=some cs:=by
     rcases qrX h77 with rfl|rfl
     ·exact⟨_,rfl⟩
     ·exact⟨_,rfl⟩
    obtain⟨cs,hv⟩:=hv;simp only[hv,h1];rw[qB5 (by rw[h4,qBV];exact h2)]
   ·obtain⟨h2,h⟩:=qm h;refine⟨H,?_,h⟩;have h99:qdI v=true:=by rw[qBi]at h2;exact h2.2
    have hv:∃cs,v.cells=some cs:=by
     unfold qdI at h99;split at h99
     ·exact⟨_,rfl⟩
     ·exact⟨_,rfl⟩
     ·cases h99
    obtain⟨cs,hv⟩:=hv;simp only[hv,h1];rw[qB6 (by rw[h4];simp),qB5 h2]
  ·cases h
 ·cases h
theorem qfb{lo hi d:Nat}{x:Option AV}{k:Nat->Option α}(h:qhJ lo hi x d k=some r):∃n,qcn lo hi x d=some n∧k n=some r:=by
 unfold qhJ at h;unfold qcn;split at h
 ·exact⟨_,rfl,h⟩
 ·split at h
  ·obtain⟨h1,h⟩:=qm h;rw[qBi,xi,xi]at h1;exact⟨_,by simp only;rw[qB5 h1],h⟩
  ·cases h
theorem qbB{n:Nat}{lo hi mx:Option AV}{k:Nat->Nat->Option α}(h:qcw n lo hi mx k=some r):∃l h',qbN n lo hi mx=some (l,h')∧k l h'=some r:=by
 unfold qcw at h;obtain⟨h0,h⟩:=qtG h;obtain⟨a,h1,h⟩:=qfb h;obtain⟨b,h2,h⟩:=qfb h;obtain⟨c,h3,h⟩:=qfb h;refine⟨c,a,?_,h⟩;unfold qbN;rw[qB6 (by rw[h0];simp),h1];simp only[h2,h3]
theorem qq3{cfg:Cfg}{t:TypeId}{x:AV}{lo hi mx:Option AV}{k:KV α}(h:qpf cfg t H x lo hi mx k=some r):∃v,qcp cfg t H x lo hi mx=some v∧k v=some r:=by
 unfold qpf at h;unfold qcp;split at h
 ·rename_i ht;rw[ht];split at h
  ·split at h
   ·obtain⟨l,h',h1,h⟩:=qbB h;exact⟨_,by simp only[h1],h⟩
   ·cases h
  ·cases h
 ·rename_i e ht;rw[ht];split at h
  ·rename_i n hn;split at h
   ·obtain⟨l,h',h1,h⟩:=qbB h;exact⟨_,by simp only[hn,h1],h⟩
   ·rename_i rows;obtain⟨l,h',h1,h⟩:=qbB h;obtain⟨h2,h⟩:=qm h;refine⟨slE (cfg.ems t) rows l h',by simp only[hn,h1,h2,if_true],?_⟩;split at h
    ·rename_i he;rw[he];exact h
    ·rename_i he;rw[he];exact h
   ·obtain⟨l,h',h1,h⟩:=qbB h;obtain⟨sz,rs,h2,h⟩:=qa3 h;obtain⟨h3,hz⟩:=qm h;have:=qBo h3;subst this;exact⟨_,by simp[hn,h1,h2],hz⟩
   ·split at h
    ·split at h
     ·rename_i kd hh _;split at h
      ·obtain⟨h2,hz⟩:=qm h;rw[qBi,xi,xi]at h2;exact⟨_,by simp only[hn,AV.lenW];rw[qB5 h2],hz⟩
      ·obtain⟨h2,hz⟩:=qm h;rw[qBi,xi,xi]at h2;exact⟨_,by simp only[hn,AV.lenW];rw[qB5 h2],hz⟩
      ·cases h
     ·cases h
    ·cases h
   ·cases h
  ·cases h
 ·cases h
theorem qlq{cfg:Cfg}{t:TypeId}{x i:AV}{k:KV α}(h:qgk cfg t H x i k=some r):∃v,y7 cfg t H x i=some v∧k v=some r:=by
 unfold qgk at h;unfold y7;split at h
 case h_2=>cases h
 rename_i kk i;split at h
 ·rename_i e ht;rw[ht];split at h
  case h_2=>cases h
  rename_i n hn;split at h
  ·obtain⟨sz,rs,h1,h⟩:=qa3 h;obtain⟨h2,hz⟩:=qm h;rw[qBi,qBi,xi,qaZ]at h2;have:=qBo h2.1.1;subst this;exact⟨_,by simp[hn,h1,h2.1.2,h2.2],hz⟩
  ·obtain⟨h2,h⟩:=qm h;rw[qBi,xi,qaZ]at h2;obtain⟨row,h3,h⟩:=qH h;obtain⟨h4,hz⟩:=qm h;refine⟨.cptr row 0,?_,hz⟩;have h5:=qBo h4;simp only[hn,qB5 h2,h3];rw[qB5 (by rw[h5];exact beq_self_eq_true n)]
  ·obtain⟨h2,h⟩:=qm h;rw[qBi,xi,qaZ]at h2;obtain⟨row,h3,h⟩:=qH h;obtain⟨h4,hz⟩:=qm h;refine⟨.lpt row 0,?_,hz⟩;have h5:=qBo h4;simp only[hn,qB5 h2,h3];rw[qB5 (by rw[h5];exact beq_self_eq_true n)]
  ·rename_i id rows;obtain⟨h2,h⟩:=qm h;rw[qBi,xi,qaZ]at h2;obtain⟨row,h3,h⟩:=qH h;obtain⟨h4,hz⟩:=qm h;refine⟨.rpt id row 0,?_,hz⟩;have h5:=qBo h4;simp only[hn,qB5 h2,h3];rw[qB5 (by rw[h5];exact beq_self_eq_true n)]
  ·cases h
 ·rename_i m e ht;rw[ht];split at h
  case h_2=>cases h
  rename_i n hn;split at h
  ·obtain⟨h2,h⟩:=qm h;rw[qBi,xi,qaZ]at h2;exact⟨_,by simp[hn,h2.1,h2.2],h⟩
  ·obtain⟨h2,h⟩:=qm h;rw[qBi,xi,qaZ]at h2;exact⟨_,by simp[hn,h2.1,h2.2],h⟩
  ·cases h
 ·cases h
theorem qxX{cfg:Cfg}{t:TypeId}{ti:TI}(h:cfg.ty t=some ti):cfg.sz t=some ti.sz∧cfg.td t=some ti.d:=by
 unfold Cfg.sz Cfg.td;rw[h];exact⟨rfl,rfl⟩
theorem qq6{cfg:Cfg}{t:TypeId}{x i:AV}{k:KV α}(h:qpn cfg t x i k=some r):∃v,qfT cfg t x i=some v∧k v=some r:=by
 unfold qpn at h;unfold qfT;split at h
 case h_2=>cases h
 rename_i kk i;split at h
 ·rename_i n e ht;rw[ht];split at h
  case h_2=>cases h
  rename_i ti hti;obtain⟨cs,rfl,h⟩:=qeJ h;obtain⟨h2,h⟩:=qm h;rw[qBi,xi,qaZ]at h2;obtain⟨v,h3,h⟩:=zA h;refine⟨v,?_,h⟩;simp only[(qxX hti).1];rw[qB5 h2];unfold qix;rw[hti];exact h3
 ·rename_i ht;rw[ht];obtain⟨s,rfl,h⟩:=qa1 h;obtain⟨h2,h⟩:=qm h;rw[xi]at h2;obtain⟨b,h3,h⟩:=qH h;exact⟨_,by simp[h2,h3],h⟩
 ·cases h
theorem qq7{cfg:Cfg}{t:TypeId}{x:AV}{f:Nat}{k:KV α}(h:qpo cfg t x f k=some r):∃v,qfU cfg t x f=some v∧k v=some r:=by
 unfold qpo at h;unfold qfU;split at h
 case h_2=>cases h
 rename_i fs ht;rw[ht];split at h
 case h_2=>cases h
 rename_i off ft hf;split at h
 case h_2=>cases h
 rename_i ti hti;obtain⟨cs,rfl,h⟩:=qeJ h;obtain⟨v,h3,h⟩:=zA h;refine⟨v,?_,h⟩;simp only[hf];unfold qix;rw[hti];exact h3
theorem qlv{cfg:Cfg}{t:TypeId}{x:AV}{f:Nat}{k:KV α}(h:qgn cfg t x f k=some r):∃v,qbo cfg t x f=some v∧k v=some r:=by
 unfold qgn at h;unfold qbo;split at h
 case h_2=>cases h
 rename_i fs ht;rw[ht];simp only;split at h
 case h_2=>cases h
 rename_i off ft hf;simp only[hf];split at h
 case h_2=>cases h
 rename_i n hn;split at h
 ·exact⟨_,by simp only[hn],h⟩
 ·exact⟨_,by simp only[hn],h⟩
 ·exact⟨_,by simp only[hn],h⟩
 ·cases h
variable {α : Type} {r : α} {H : AH}
theorem qpg{n:Nat}{x:AV}{k:List (List AV)->Option α}(h:qms H n x k=some r):∃rows,yX H n x=some rows∧k rows=some r:=by
 unfold qms at h;unfold yX;split at h
 ·exact⟨_,rfl,h⟩
 ·exact⟨_,rfl,h⟩
 ·obtain⟨h1,hz⟩:=qm h;exact⟨_,by simp only[h1,if_true],hz⟩
 ·obtain⟨sz,rs,h1,h⟩:=qa3 h;obtain⟨h2,hz⟩:=qm h;rw[qBi]at h2;refine⟨_,?_,hz⟩;simp only[h1];rw[qB5];rw[qBi,beq_iff_eq];exact⟨qBo h2.1,h2.2⟩
 ·cases h
theorem qng{b:Bool}{n:Nat}{x:AV}{k:List (List AV)->Option α}(h:kSrc b H n x k=some r):∃rows,yQ H n x=some rows∧k rows=some r:=by
 unfold kSrc at h;rcases yx h with⟨_,h⟩|⟨_,h⟩
 ·obtain⟨s,rfl,h⟩:=qa1 h;obtain⟨h1,hz⟩:=qm h;exact⟨_,by simp only[yQ,h1,if_true],hz⟩
 ·obtain⟨rows,h1,hz⟩:=qpg h;refine⟨rows,?_,hz⟩;unfold yQ;split
  ·simp[yX]at h1
  ·exact h1
theorem qnK{cfg:Cfg}{nid:Option Nat}{s d:TypeId}{x:AV}{k:KH α}(h:qjP cfg nid s d x H k=some r):∃v H',zP cfg nid s d x H=some (v,H')∧k v H'=some r:=by
 unfold qjP at h;unfold zP;split at h
 ·rename_i hs hd;split at h
  ·exact⟨_,_,by simp only[hs,hd],h⟩
  ·cases h
 ·rename_i hs hd;obtain⟨b,rfl,hz⟩:=qa1 h;exact⟨_,_,by simp only[hs,hd],hz⟩
 ·rename_i e hs hd;split at h
  ·rename_i hte;obtain⟨b,rfl,h0⟩:=qa1 h;obtain⟨i,H',h1,hz⟩:=yL h0;exact⟨_,_,by simp only[hs,hd,hte,h1],hz⟩
  ·cases h
 ·rename_i e hs hd;split at h
  ·rename_i hte;obtain⟨rows,h1,h⟩:=qH h;obtain⟨bs,h2,hz⟩:=qH h;refine⟨.str bs,H,?_,hz⟩;simp only[hs,hd];cases x<;>first|(simp only[hte,h1,h2];done)|(simp[yX]at h1)
  ·cases h
 ·cases h
theorem qpq{cfg:Cfg}{nid:Option Nat}{t xt:TypeId}{s x:AV}{k:KH α}(h:qmw cfg nid t xt s x H k=some r):∃v H',qbZ cfg nid t xt s x H=some (v,H')∧k v H'=some r:=by
 unfold qmw at h;unfold qbZ;split at h
 case h_2=>cases h
 rename_i e xd ht hxt;split at h
 case h_2=>cases h
 rename_i ei hei;obtain⟨h1,h⟩:=qm h;obtain⟨news,h2,h⟩:=qng h;simp only[ht,hxt,hei,h1,if_true,h2];split at h
 ·rcases yx h with⟨h3,hz⟩|⟨h3,h⟩
  ·exact⟨_,_,by simp only[h3,if_true],hz⟩
  ·obtain⟨h4,h⟩:=qm h;obtain⟨i,H',h5,hz⟩:=yL h;exact⟨_,_,by simp only[h3,qBu,if_false,h4,if_true,h5],hz⟩
 ·obtain⟨d,sz,rs,h3,h⟩:=qbh h;obtain⟨h4,h⟩:=qm h;obtain⟨i,H',h5,hz⟩:=yL h;exact⟨_,_,by simp only[h3,h4,if_true,h5],hz⟩
 ·cases h
theorem qvs{cfg:Cfg}{t:TypeId}{x:AV}{k:KV α}(h:kLen cfg t x H k=some r):∃v,aLen cfg t x H=some v∧k v=some r:=by
 unfold kLen at h;unfold aLen;split at h
 ·rename_i ht;obtain⟨s,rfl,hz⟩:=qa1 h;exact⟨_,by simp only[ht],hz⟩
 ·rename_i e ht;split at h
  ·exact⟨_,by simp only[ht],h⟩
  ·exact⟨_,by simp only[ht],h⟩
  ·exact⟨_,by simp only[ht],h⟩
  ·exact⟨_,by simp only[ht],h⟩
  ·exact⟨_,by simp only[ht],h⟩
  ·exact⟨_,by simp only[ht],h⟩
  ·cases h
 ·rename_i n e ht;exact⟨_,by simp only[ht],h⟩
 ·rename_i a b ht;split at h
  ·exact⟨_,by simp only[ht],h⟩
  ·obtain⟨b,h1,h⟩:=qH h;split at h
   ·exact⟨_,by simp only[ht,h1],h⟩
   ·cases h
  ·cases h
 ·cases h
theorem qlo{cfg:Cfg}{nid:Option Nat}{t:TypeId}{l c:AV}{k:KH α}(h:qoc cfg nid t l c H k=some r):∃v H',qcW cfg nid t l c H=some (v,H')∧k v H'=some r:=by
 unfold qoc at h;unfold qcW;split at h
 case h_2=>cases h
 rename_i e ht;split at h
 case h_2=>cases h
 rename_i ei hei;obtain⟨h1,h⟩:=qm h;obtain⟨n,rfl,ha⟩:=qc5 h;obtain⟨m,rfl,hb⟩:=qc5 ha;obtain⟨h2,hd⟩:=qm hb;obtain⟨i,H',h3,hz⟩:=yL hd;rw[qBi,qBi,qBi,xi,xi,xi,xi]at h2;exact⟨_,_,by simp only[ht,hei,h1,if_true];rw[qB5 ⟨h2.1.1.1,h2.1.1.2,h2.1.2,h2.2⟩];simp only[h3],hz⟩
theorem qq5{cfg:Cfg}{nid:Option Nat}{t:TypeId}{l c:AV}{k:KH α}(h:qpk cfg nid t l c H k=some r):∃v H',qbu cfg nid t l c H=some (v,H')∧k v H'=some r:=by
 unfold qpk at h;unfold qbu;split at h
 ·rename_i hw;rw[hw];exact qlo h
 ·rename_i hw;rw[hw];split at h
  ·obtain⟨h1,h⟩:=qm h;obtain⟨v,H',h2,h⟩:=qlo h;split at h
   ·refine⟨_,_,?_,h⟩;simp only;rw[qB5 h1,h2];rfl
   ·cases h
  ·cases h
theorem qvu{cfg:Cfg}{t:TypeId}{x:AV}{k:KV α}(h:kCap cfg t x k=some r):∃v,aCap cfg t x=some v∧k v=some r:=by
 unfold kCap at h;unfold aCap;split at h
 ·rename_i e ht;split at h
  ·split at h
   ·exact⟨_,by simp only[ht,AV.lenW,qBD],h⟩
   ·exact⟨_,by simp only[ht,AV.lenW,qBD],h⟩
   ·cases h
  ·cases h
 ·cases h
theorem qmt{v:AV}{k:KV α}{cfg:Cfg}{nid:Option Nat}{a:Operand}{ty:TypeId}{x:Operand->AV}(hx:x a=v)(h:qhE v k=some r):evOp cfg nid (.nilCheck a) ty x H=some (v,H)∧k v=some r:=by
 unfold qhE at h;simp only[evOp,hx];split at h<;>first|exact⟨rfl,h⟩|cases h
theorem qq9{cfg:Cfg}{t:TypeId}{x:AV}{k:AH->Option α}(h:qpp cfg t x H k=some r):∃H',qfV cfg t x H=some H'∧k H'=some r:=by
 unfold qpp at h;unfold qfV;split at h
 case h_2=>cases h
 rename_i e he;rw[he];split at h
 ·exact⟨H,rfl,h⟩
 ·rename_i id off len;split at h
  case h_2=>cases h
  rename_i ei hei;obtain⟨d,sz,rs,h1,h⟩:=qbh h;obtain⟨h2,hz⟩:=qm h;exact⟨_,by simp only[hei,h1,h2,if_true],hz⟩
 ·cases h
theorem qtd{cfg:Cfg}{t xt:TypeId}{d s:AV}{k:KH α}(h:qte cfg t xt d s H k=some r):∃v H',qiy cfg t d s H=some (v,H')∧k v H'=some r:=by
 unfold qte at h;unfold qiy;split at h
 case h_2=>cases h
 rename_i e he;rw[he];split at h
 case h_2=>cases h
 rename_i id off len;split at h
 case h_2=>cases h
 rename_i n hn;obtain⟨db,sz,rs,h1,h⟩:=qbh h;obtain⟨news,h2,h⟩:=qng h;obtain⟨h3,hz⟩:=qm h;exact⟨_,_,by simp only[hn,h1,h2,h3,if_true],hz⟩
theorem qhF{b:ABlk}{k:Bool->List (AV×AV)->Option α}(h:kMpB b k=some r):∃d es,b= .mp d es∧k d es=some r:=by
 unfold kMpB at h;split at h
 ·exact⟨_,_,rfl,h⟩
 ·cases h
theorem qq4{x:AV}{k:Bool->List (AV×AV)->Option α}(h:qpj H x k=some r):∃d es,qeB H x=some es∧k d es=some r:=by
 unfold qpj at h;split at h
 ·exact⟨_,_,rfl,h⟩
 ·obtain⟨b,h1,h⟩:=qH h;obtain⟨d,es,rfl,h⟩:=qhF h;exact⟨d,es,by simp only[qeB,h1],h⟩
 ·cases h
theorem qjh{q:Option (Nat×AV)}{x:Option α}{y:Nat->AV->Option α}(h:ye q x y=some r):(q=none∧x=some r)∨∃p,q=some p∧y p.1 p.2=some r:=by
 unfold ye at h;split at h
 ·exact .inl ⟨rfl,h⟩
 ·exact .inr ⟨_,rfl,h⟩
theorem qpm{cfg:Cfg}{t:TypeId}{x key:AV}{ok:Bool}{k:KV α}(h:qmv cfg t x key ok H k=some r):∃v,qbn cfg t x key ok H=some v∧k v=some r:=by
 unfold qmv at h;split at h
 case h_2=>cases h
 rename_i kt et ht;split at h
 case h_2=>cases h
 rename_i d hd;obtain⟨df,es,h1,h⟩:=qq4 h;obtain⟨h2,h⟩:=qm h;obtain⟨q,h3,h⟩:=qH h;rcases qjh h with⟨rfl,h⟩|⟨p,rfl,h⟩
 ·obtain⟨z,hz,h⟩:=qH h;exact⟨_,by simp only[qbn,ht,hd,h1,h2,if_true,h3,hz];cases ok<;>rfl,h⟩
 ·have h:=qeE (k:=λv=>k (cond ok (.tup [v,.bool true]) v)) h;exact⟨_,by simp only[qbn,ht,hd,h1,h2,if_true,h3];cases ok<;>rfl,h⟩
theorem qhG{cfg:Cfg}{t:TypeId}{m key v:AV}{k:AH->Option α}(h:qmu cfg t m key v H k=some r):∃H',qbY cfg t m key v H=some H'∧k H'=some r:=by
 unfold qmu at h;split at h
 case h_2=>cases h
 rename_i kt et ht;split at h
 case h_2=>cases h
 rename_i id;split at h
 case h_2=>cases h
 rename_i d hd;obtain⟨b,h1,h⟩:=qH h;obtain⟨d0,es,rfl,h⟩:=qhF h;obtain⟨h2,h⟩:=qm h;obtain⟨q,h3,h⟩:=qH h;rcases qjh h with⟨rfl,h⟩|⟨p,rfl,h⟩
 ·exact⟨_,by simp only[qbY,ht,hd,h1,h2,if_true,h3],h⟩
 ·exact⟨_,by simp only[qbY,ht,hd,h1,h2,if_true,h3],h⟩
theorem qpi{cfg:Cfg}{nid:Option Nat}{o:Op}{ty:TypeId}{x:Operand->AV}{k:KH α}(h:kOp cfg nid o ty x H k=some r):∃v H',evOp cfg nid o ty x H=some (v,H')∧k v H'=some r:=by
 cases o with
 |move a=>exact⟨_,_,rfl,h⟩
 |assign a=>exact⟨_,_,rfl,h⟩
 |pick c a b=>
  simp only[kOp]at h;obtain⟨t,h1,h⟩:=qdw h;have:=qs9 (k:=λv=>k v H) h;exact⟨_,_,by simp only[evOp,h1],this⟩
 |alloc t=>
  simp only[kOp]at h;split at h
  ·rename_i ti hti;obtain⟨h1,h⟩:=qm h;obtain⟨i,H',h2,hz⟩:=yL h;exact⟨_,_,by simp only[evOp,hti,h1,if_true,h2],hz⟩
  ·cases h
 |box t a=>
  simp only[kOp]at h;obtain⟨cs,h1,h⟩:=qbE h;obtain⟨i,H',h2,hz⟩:=yL h;exact⟨_,_,by simp only[evOp,h1,h2],hz⟩
 |build t parts=>
  simp only[kOp]at h;split at h
  case h_2=>cases h
  rename_i ti hti;obtain⟨h1,h⟩:=qm h;split at h
  ·rename_i fs hfs;split at h
   case h_2=>cases h
   rename_i ps hps;obtain⟨qs,h2,h3⟩:=qkV hps;obtain⟨cs,h4,hz⟩:=qgm (place':=λi=>qs[i]?) (λi off n g hi=>h3 i off n g hi) h;exact⟨_,_,by simp only[evOp,hti,h1,if_true,hfs,h2,h4,qBD],hz⟩
  ·rename_i m e hfs;split at h
   case h_2=>cases h
   rename_i n hn;obtain⟨cs,h4,hz⟩:=qgm (place':=λi=>some (i*n,n)) (λi off m g hi=>by cases hi;rfl) h;exact⟨_,_,by simp only[evOp,hti,h1,if_true,hfs,hn,h4,qBD],hz⟩
  ·cases h
 |buildSlice t len parts=>
  simp only[kOp]at h;split at h
  case h_2=>cases h
  rename_i e ht;split at h
  case h_2=>cases h
  rename_i ei hei;obtain⟨h1,h⟩:=qm h;obtain⟨rows,h2,h⟩:=qlj h;obtain⟨i,H',h3,hz⟩:=yL h;exact⟨_,_,by simp only[evOp,ht,hei,h1,if_true,h2,h3],hz⟩
 |load t a=>
  simp only[kOp]at h;split at h
  case h_2=>cases h
  rename_i ti hti;split at h
  ·rename_i cs off hx;obtain⟨v,h1,h⟩:=zA h;have h2:=xl (k:=λv=>cond ti.d.agg (k v.lendA H) (k v.lend H)) h;rcases yx h2 with⟨ha,h2⟩|⟨ha,h2⟩
   ·rw[ha]at h1;simp only[if_true]at h1;split at h1
    ·rename_i hb;cases h1;refine⟨_,_,?_,h2⟩;simp only[evOp,hti,hx,qar,ha,if_true,hb,qBD,AV.lendA]
    ·cases h1
   ·rw[ha]at h1;simp only[qBu,if_false]at h1;refine⟨_,_,?_,h2⟩;simp only[evOp,hti,hx,qar,ha,qBu,if_false,h1,qBD]
  ·rename_i id cs off hx;obtain⟨b,hb0,h⟩:=qH h;split at h
   ·obtain⟨v,h1,h⟩:=zA h;have h2:=xl (k:=λv=>cond ti.d.agg (k (v.regA id) H) (k (v.regn id) H)) h;rcases yx h2 with⟨ha,h2⟩|⟨ha,h2⟩
    ·rw[ha]at h1;simp only[if_true]at h1;split at h1
     ·rename_i hb;cases h1;refine⟨_,_,?_,h2⟩;simp only[evOp,hti,hx,qar,hb0,ha,if_true,hb,qBD,AV.regA]
     ·cases h1
    ·rw[ha]at h1;simp only[qBu,if_false]at h1;refine⟨_,_,?_,h2⟩;simp only[evOp,hti,hx,qar,hb0,ha,qBu,if_false,h1,qBD]
   ·obtain⟨v,h1,h⟩:=qgj h;exact⟨_,_,by simp only[evOp,hti,hx,h1,qBD],h⟩
  ·obtain⟨v,h1,h⟩:=qgj h;exact⟨_,_,by simp only[evOp,hti,h1,qBD],xl (k:=λv=>k v H) h⟩
 |store t a v=>
  simp only[kOp]at h;split at h
  case h_2=>cases h
  rename_i ti hti;obtain⟨H',h1,hz⟩:=qq2 h;exact⟨_,_,by simp only[evOp,(qxX hti).1,h1,qBD],hz⟩
 |nilCheck a=>
  obtain⟨h1,h2⟩:=qmt (cfg:=cfg) (nid:=nid) (ty:=ty) (H:=H) (x:=x) (a:=a) (k:=λv=>k v H) rfl h;exact⟨_,_,h1,h2⟩
 |binOp op t a b yt=>
  simp only[kOp]at h;obtain⟨v,h1,h⟩:=qH h;exact⟨_,_,by simp only[evOp,h1,qBD],xl (k:=λv=>k v H) h⟩
 |unOp op t a=>
  simp only[kOp]at h;obtain⟨v,h1,h⟩:=qH h;exact⟨_,_,by simp only[evOp,h1,qBD],xl (k:=λv=>k v H) h⟩
 |convert s d a=>exact qnK h
 |makeFunc f first caps=>exact⟨_,_,rfl,h⟩
 |makeSlice t l c=>exact qq5 h
 |makeMap t r=>
  simp only[kOp]at h;unfold qpl at h;split at h
  case h_2=>cases h
  rename_i kt et ht;cases r with
  |none=>
   simp only[Option.map_none]at h;obtain⟨i,H',h1,hz⟩:=yL h;exact⟨_,_,by simp only[evOp,ht,h1],hz⟩
  |some a=>
   simp only[qBD]at h;split at h
   ·rename_i hxa;obtain⟨i,H',h1,hz⟩:=yL h;exact⟨_,_,by simp only[evOp,ht,hxa,h1],hz⟩
   ·cases h
 |lookup t a key ok=>
  simp only[kOp]at h;obtain⟨v,h1,hz⟩:=qpm h;exact⟨_,_,by simp only[evOp,h1,qBD],hz⟩
 |mapUpdate t m key v=>
  simp only[kOp]at h;obtain⟨H',h1,hz⟩:=qhG h;exact⟨_,_,by simp only[evOp,h1,qBD],hz⟩
 |insert t m key v=>
  simp only[kOp]at h;obtain⟨H',h1,hz⟩:=qhG h;exact⟨_,_,by simp only[evOp,h1,qBD],hz⟩
 |slice t a lo hi mx=>
  simp only[kOp]at h;obtain⟨v,h1,hz⟩:=qq3 h;exact⟨_,_,by simp only[evOp,h1,qBD],hz⟩
 |fieldAddr t a f=>
  simp only[kOp]at h;obtain⟨v,h1,hz⟩:=qlv h;exact⟨_,_,by simp only[evOp,h1,qBD],hz⟩
 |field t a f=>
  simp only[kOp]at h;obtain⟨v,h1,h⟩:=qq7 h;exact⟨_,_,by simp only[evOp,h1,qBD],xl (k:=λv=>k v H) h⟩
 |indexAddr t a i=>
  simp only[kOp]at h;obtain⟨v,h1,hz⟩:=qlq h;exact⟨_,_,by simp only[evOp,h1,qBD],hz⟩
 |index t a i=>
  simp only[kOp]at h;obtain⟨v,h1,h⟩:=qq6 h;exact⟨_,_,by simp only[evOp,h1,qBD],xl (k:=λv=>k v H) h⟩
 |extract t i=>
  simp only[kOp]at h;split at h
  ·rename_i vs hvs;obtain⟨v,h1,h⟩:=qH h;exact⟨_,_,by simp only[evOp,hvs,h1,qBD],xl (k:=λv=>k v H) h⟩
  ·cases h
 |call c=>
  simp only[kOp]at h;obtain⟨callee,args,argTypes⟩:=c;simp only at h;simp only[evOp];split at h
  case h_2=>cases h
  generalize args.toList=al at *;generalize argTypes.toList=tl at *;split at h
  ·obtain⟨v,h1,hz⟩:=qvs h;exact⟨_,_,by simp only[h1,qBD],hz⟩
  ·obtain⟨v,h1,hz⟩:=qvu h;exact⟨_,_,by simp only[h1,qBD],hz⟩
  ·exact qpq h
  ·rename_i d s t xt;obtain⟨v,H',h1,hz⟩:=qtd h;exact⟨_,_,h1,hz⟩
  ·obtain⟨v,h1,hz⟩:=qq9 h;exact⟨_,_,by simp only[h1,qBD],hz⟩
  ·obtain⟨v,h1,h⟩:=qH h;exact⟨_,_,by simp only[h1,qBD],xl (k:=λv=>k v H) h⟩
  ·obtain⟨v,h1,h⟩:=qH h;exact⟨_,_,by simp only[h1,qBD],xl (k:=λv=>k v H) h⟩
  ·cases h
 |_=>simp only[kOp]at h;cases h
def KfOk(cf:Orac)(kf:KF α):Prop:=∀t a H k r,kf t a H k=some r->∃q,cf t a H=some q∧k q=some r
theorem qmI{a b:Bool}(h:beqB a b=true):a=b:=by cases a<;>cases b<;>first|rfl|cases h
theorem qe8{b:ABlk}{k:Bool->Nat->List (List AV)->Option α}(h:qj b k=some r):∃d n rs,b= .rows d n rs∧k d n rs=some r:=by
 unfold qj at h;split at h
 ·exact⟨_,_,_,rfl,h⟩
 ·cases h
theorem qjk{l:AH}{k:ABlk->AH->Option α}(h:qf l k=some r):∃a b,l=a::b∧k a b=some r:=by
 unfold qf at h;split at h
 ·exact⟨_,_,rfl,h⟩
 ·cases h
theorem qln{l:AH}{x:Option α}(h:qT l x=some r):l=[]∧x=some r:=by
 unfold qT at h;split at h
 ·exact⟨rfl,h⟩
 ·cases h
theorem qjj{l:List (List AV)}{k:List AV->List (List AV)->Option α}(h:qN l k=some r):∃a b,l=a::b∧k a b=some r:=by
 unfold qN at h;split at h
 ·exact⟨_,_,rfl,h⟩
 ·cases h
theorem qlm{l:List (List AV)}{x:Option α}(h:qX l x=some r):l=[]∧x=some r:=by
 unfold qX at h;split at h
 ·exact⟨rfl,h⟩
 ·cases h
theorem qvp{s:BSh}{b:ABlk}{k:ABlk->Option α}(h:kShB s b k=some r):k b=some r:=by
 cases s with
 |row d cs=>
  obtain⟨d',n,rs,rfl,h⟩:=qe8 h;obtain⟨h1,h⟩:=qm h;obtain⟨row,rest,rfl,h⟩:=qjj h;obtain⟨rfl,h⟩:=qlm h;rw[qBi]at h1;rw[←qmI h1.1,qBo h1.2];exact h
 |rows d sz=>
  obtain⟨d',n,rs,rfl,h⟩:=qe8 h;obtain⟨h1,h⟩:=qm h;rw[qBi]at h1;rw[←qmI h1.1,qBo h1.2];exact h
 |mp d=>
  obtain⟨d',es,rfl,h⟩:=qhF h;obtain⟨h1,h⟩:=qm h;rw[←qmI h1];exact h
theorem qni:∀{ss:List BSh} {l:AH} {k:AH->Option α},kSh1 ss l k=some r->k l=some r
 |[],l,k,h=>by
  obtain⟨rfl,h⟩:=qln h;exact h
 |s::ss,l,k,h=>by
  obtain⟨b,bs,rfl,h⟩:=qjk h;have h:=qvp (k:=λb=>kSh1 ss bs λbs=>k (b::bs)) h;exact qni (k:=λbs=>k (b::bs)) h
theorem qvo{G:AH}{s:CSh}{c:AV}{k:KV α}(h:kShC G s c k=some r):k c=some r:=by
 cases s with
 |leaf s=>exact qe9 h
 |sl j=>
  simp only[kShC]at h;unfold kMsE at h;split at h
  case h_2=>cases h
  obtain⟨sz,rs,_,h⟩:=qa3 h;obtain⟨h1,h⟩:=qm h;rw[qBi,qBi]at h1;rw[qBo h1.1,qBo h1.2.1,qBo h1.2.2];exact h
 |mp j=>
  simp only[kShC]at h;unfold kMpE at h;split at h
  case h_2=>cases h
  obtain⟨h1,h⟩:=qm h;rw[qBo h1];exact h
 |ptr j=>
  simp only[kShC]at h;unfold qlk at h;split at h
  case h_2=>cases h
  obtain⟨h1,h⟩:=qm h;rw[qBi,qBi]at h1;rw[qBo h1.1,qBo h1.2.1,qBo h1.2.2];exact h
 |is v=>
  simp only[kShC]at h;obtain⟨h1,h⟩:=qm h;rw[AV.same_eq h1];exact h
theorem qlh{G:AH}:∀{ss:List CSh} {l:List AV} {k:List AV->Option α},qoa G ss l k=some r->k l=some r
 |[],l,k,h=>by
  obtain⟨rfl,h⟩:=qeG h;exact h
 |s::ss,l,k,h=>by
  obtain⟨c,cs,rfl,h⟩:=qal h;have h:=qvo (k:=λv=>qoa G ss cs λvs=>k (v::vs)) h;exact qlh (k:=λvs=>k (c::vs)) h
theorem qvn{G:AH}{s:BSh}{b:ABlk}{k:ABlk->Option α}(h:kShD G s b k=some r):k b=some r:=by
 cases s with
 |row d cs=>
  obtain⟨d',n,rs,rfl,h⟩:=qe8 h;obtain⟨row,rest,rfl,h⟩:=qjj h;obtain⟨rfl,h⟩:=qlm h;exact qlh (k:=λcs'=>k (.rows d' n [cs'])) h
 |rows d sz=>exact h
 |mp d=>exact h
theorem qnh{G:AH}:∀{ss:List BSh} {l:AH} {k:AH->Option α},kSh2 G ss l k=some r->k l=some r
 |[],l,k,h=>by
  obtain⟨rfl,h⟩:=qln h;exact h
 |s::ss,l,k,h=>by
  obtain⟨b,bs,rfl,h⟩:=qjk h;have h:=qvn (k:=λb=>kSh2 G ss bs λbs=>k (b::bs)) h;exact qnh (k:=λbs=>k (b::bs)) h
theorem qvm{ss:List BSh}{l:AH}{k:AH->Option α}(h:kShp ss l k=some r):k l=some r:=
 qnh (qni (k:=λG=>kSh2 G ss G k) h)
theorem qcL{cfg:Cfg}{cf:Orac}{kf:KF α}(hkf:KfOk cf kf){nid:Option Nat}{ty:TypeId}{t:Tgt}{args:List AV}{k:KH α}(h:qci cfg cf kf nid ty t args H k=some r):∃v H',vJ cfg cf nid t args H=some (v,H')∧k v H'=some r:=by
 cases t with
 |y id=>
  simp only[qci]at h;obtain⟨q,h1,h⟩:=hkf _ _ _ _ _ h;obtain⟨p,h2,h⟩:=qH h;exact⟨_,_,by simp only[vJ,h1,qBs];exact h2,xl (k:=λv=>k v p.2) h⟩
 |f f=>
  simp only[qci]at h;cases hm:cfg.mode f with
  |scal=>
   simp only[hm]at h;obtain⟨h1,h⟩:=qm (qly h);split at h
   ·obtain⟨q,h5,h⟩:=hkf _ _ _ _ _ h;have h3:=xl (k:=λv=>cond v.scalar (k v H) none) h;obtain⟨h4,hz⟩:=qm h3;exact⟨q.1,H,by simp only[vJ,hm,h1,if_true,h5,qBs,h4],hz⟩
   obtain⟨v,h2,h⟩:=qH h;have h3:=xl (k:=λv=>cond v.scalar (k v H) none) h;obtain⟨h4,hz⟩:=qm h3;unfold EVs at h2;obtain⟨q,h5,h6⟩:=qBq.1 h2;exact⟨v,H,by simp only[vJ,hm,h1,if_true,h5,qBs,h6,h4],hz⟩
  |pfrz=>
   simp only[hm]at h;obtain⟨h1,h⟩:=qm h;split at h
   ·obtain⟨q,h5,h⟩:=hkf _ _ _ _ _ h;have h2:=qbU (k:=λv=>kTy qgC cfg ty v λv=>cond (v.refsLt 0) (k v H) none) h;have h3:=xl (k:=λv=>cond (v.refsLt 0) (k v H) none) h2;obtain⟨h4,hz⟩:=qm h3;exact⟨_,H,by simp only[vJ,hm,h1,if_true,h5,qBs,h4],hz⟩
   obtain⟨v,h2,h⟩:=qH h;have h3:=xl (k:=λv=>cond (v.refsLt 0) (k v H) none) h;obtain⟨h4,hz⟩:=qm h3;unfold EVf at h2;obtain⟨q,h5,h6⟩:=qBq.1 h2;exact⟨v,H,by simp only[vJ,hm,h1,if_true,h5,qBs,h6,h4],hz⟩
  |pown=>
   simp only[hm]at h;split at h
   ·rename_i t1 t2 _;obtain⟨h1,h⟩:=qm h;obtain⟨q,h2,h⟩:=qH h;obtain⟨p,h5,h6⟩:=qBl.1 h2;unfold qn4 at h6;split at h6
    case h_2=>cases h6
    rename_i a sc hp;obtain⟨h7,h6⟩:=qm h6;split at h6
    case h_2=>cases h6
    rename_i o ho;cases h6;have h:=qeE (k:=λs=>kOwn o (k (.tup [.nilS,s]) H) λsz rs off len=>kNew nid H (.rows true sz rs) λi H'=>k (.tup [.ms i off len,s]) H') h;unfold ovOf at ho;split at ho
    ·rename_i hq;cases ho;refine⟨.tup [.nilS,(sc.frz sc.msIds p.2).fg],H,?_,h⟩;have hq:a= .nilS:=hq;simp only[vJ,hm,h1,if_true,h5,qBs,qd5,hp,h7,hq,zs,AV.refsLt,qBD]
    ·rename_i id off len hq;split at ho
     case h_2=>cases ho
     rename_i sz rs hid;split at ho
     case isFalse=>cases ho
     rename_i hr;cases ho;simp only[kOwn]at h;obtain⟨i,H',h8,hz⟩:=yL h;have hq:a= .ms id off len:=hq;refine⟨_,_,?_,hz⟩;simp only[vJ,hm,h1,if_true,h5,qBs,qd5,hp,h7,hq,zs,hid,hr,h8,qBD]
    ·cases ho
   ·obtain⟨h1,h⟩:=qm h;have key:∃q o,cf (.f f) args []=some q∧ovOf q=some o∧(kOwn o (k .nilS H) λsz rs off len=>kNew nid H (.rows true sz rs) λi H'=>k (.ms i off len) H')=some r:=by
     split at h
     ·obtain⟨q,h5,h⟩:=hkf _ _ _ _ _ h;obtain⟨o,h6,h⟩:=qH h;exact⟨q,o,h5,h6,h⟩
     ·obtain⟨o,h2,h⟩:=qH h;unfold EVo at h2;obtain⟨q,h5,h6⟩:=qBl.1 h2;exact⟨q,o,h5,h6,h⟩
    obtain⟨q,o,h5,h6,h⟩:=key;unfold ovOf at h6;split at h6
    ·rename_i hq;cases h6;exact⟨.nilS,H,by simp only[vJ,hm,h1,if_true,h5,qBs,qd5,zs,hq,AV.refsLt],h⟩
    ·rename_i id off len hq;split at h6
     case h_2=>cases h6
     rename_i sz rs hid;split at h6
     case isFalse=>cases h6
     rename_i hr;cases h6;simp only[kOwn]at h;obtain⟨i,H',h7,hz⟩:=yL h;exact⟨_,_,by simp only[vJ,hm,h1,if_true,h5,qBs,qd5,zs,hq,hid,hr,h7],hz⟩
    ·cases h6
  |inpl=>
   simp only[hm]at h;have res:∀(kd:Nat) (ik:IntKind) (id:Nat) (v:MV) (k:KV α),qod kd ik id v k=some r->k (v.av id)=some r:=by
    intro kd ik id v k h;unfold qod at h;split at h
    ·cases v<;>first|exact h|exact absurd h (by simp[qa2])
    ·cases v<;>first|exact h|exact absurd h (by simp[kMSl])
    ·cases v with
     |int q n=>
      obtain⟨h1,h2⟩:=qm h;rw[←qhB h1]at h2;exact h2
     |_=>exact absurd h (by simp[qcd])
    ·cases v<;>first|exact h|exact absurd h (by simp[yc])
   split at h
   case h_2=>
    rename_i hids;obtain⟨h1,h⟩:=qm h;obtain⟨v1,h2,h⟩:=qH h;unfold EVu at h2;obtain⟨r1,h5,h6⟩:=qBl.1 h2;split at h6
    case isFalse=>cases h6
    rename_i hrf;have hav:r1.1=v1.av 0:=by
     unfold mvOf at h6;split at h6
     ·rename_i e;cases h6;rw[e];rfl
     ·rename_i e;cases h6;rw[e];rfl
     ·rename_i i off len e;rw[e]at hrf;simp[AV.refsLt,qBY]at hrf
     ·rename_i e;cases h6;rw[e];rfl
     ·rename_i e;cases h6;rw[e];rfl
     ·cases h6
    refine⟨v1.av 0,H,?_,res _ _ _ _ (λv=>k v H) h⟩;simp only[vJ,hm,hids,h1,if_true,h5,qBs,hrf];rw[hav]
   rename_i id l hids;obtain⟨h1,h⟩:=qm h;obtain⟨b,h2,h⟩:=qH h;split at h
   case h_2=>cases h
   rename_i d sz rs;obtain⟨h3,h⟩:=qm h;obtain⟨q,h4,h⟩:=qH h;unfold EVm at h4;obtain⟨r1,h5,h6⟩:=qBl.1 h4;obtain⟨q1,h7,h8⟩:=qBl.1 h6;obtain⟨v1,h9,h10⟩:=qBq.1 h8;cases h10;have hav:q1.1.ren (λ_=>id)=v1.av id:=by
    unfold mvOf at h9;split at h9
    ·rename_i e;cases h9;rw[e];simp[AV.ren,renL,MV.av]
    ·rename_i e;cases h9;rw[e];simp[AV.ren,MV.av]
    ·rename_i i off len e;split at h9
     ·cases h9;rw[e];simp[AV.ren,MV.av]
     ·cases h9
    ·rename_i e;cases h9;rw[e];simp[AV.ren,MV.av]
    ·rename_i e;cases h9;rw[e];simp[AV.ren,MV.av]
    ·cases h9
   have hk:k (v1.av id) (H.set id (.rows true sz q1.2))=some r:=res _ _ _ _ (λv=>k v (H.set id (.rows true sz q1.2))) h;refine⟨v1.av id,_,?_,hk⟩;simp only[vJ,hm,hids,h1,if_true,h2,h3,h5,qBs,h7,qBD,hav]
  |inpf=>
   simp only[hm]at h;split at h
   case h_2=>cases h
   rename_i id l hids;obtain⟨h1,h⟩:=qm h;obtain⟨b,h2,h⟩:=qH h;split at h
   case h_2=>cases h
   rename_i d sz rs;obtain⟨h3,h⟩:=qm h;obtain⟨q,h4,h⟩:=qH h;unfold EVd at h4;obtain⟨r1,h5,h6⟩:=qBl.1 h4;have hk:=xl (k:=λv=>k v (H.set id (.rows true sz q.2))) h;refine⟨q.1,_,?_,hk⟩;simp only[vJ,hm,hids,h1,if_true,h2,h3,h5,qBs,h6,qBD]
  |slf=>
   simp only[hm]at h;split at h
   case h_2=>cases h
   rename_i id l hids;obtain⟨h1,h⟩:=qm h;obtain⟨b,h2,h⟩:=qH h;split at h
   case h_2=>cases h
   rename_i d sz rs;obtain⟨h3,h⟩:=qm h;obtain⟨q,h4,h⟩:=qH h;have h4:=qxO h4;unfold EVx at h4;obtain⟨r1,h5,h6⟩:=qBl.1 h4;have hk:=xl (k:=λv=>k v (H.set id (.rows false sz (renR (λ_=>id) (renR (λ_=>0) rs))))) h;refine⟨q,_,?_,hk⟩;simp only[vJ,hm,hids,h1,if_true,h2,h3,h5,qBs,h6,qBD]
  |imp=>
   simp only[hm]at h;obtain⟨q,h1,h⟩:=hkf _ _ _ _ _ h;obtain⟨p,h2,h⟩:=qH h;exact⟨_,_,by simp only[vJ,hm,h1,qBs];exact h2,xl (k:=λv=>k v p.2) h⟩
  |obj=>
   simp only[hm]at h;obtain⟨s,h0,h⟩:=qH h;obtain⟨hk,h⟩:=qm h;obtain⟨q,h1,h⟩:=qH h;have h:=qvm h;obtain⟨p2,h3,h⟩:=qH h;unfold EVj at h1;obtain⟨q0,h4,h5⟩:=qBl.1 h1;exact⟨_,_,by simp only[vJ,hm,h0,hk,if_true,h4,h5,h3,qBs,qBD],xl (k:=λv=>k ((v.ren (yJ (objK (cfg.okeep f) (renL (vE 0 s.1) args)) s.1.length)).ren (yP (s.1++p2.1))) (qau p2.2 (s.1++p2.1) (yv (objK (cfg.okeep f) (renL (vE 0 s.1) args)) s.1.length q.2))) h⟩
theorem qth{cfg:Cfg}{cf:Orac}{kf:KF α}(hkf:KfOk cf kf){nid:Option Nat}{ty:TypeId}{t:Tgt}{args:List AV}{k:KH α}(h:qlx cfg cf kf nid ty t args H k=some r):∃v H',xH cfg cf nid t args H=some (v,H')∧k v H'=some r:=by
 unfold qlx at h;unfold xH;cases hn:qaw cfg t args with
 |none=>rw[hn]at h;exact qcL hkf h
 |some n=>
  rw[hn]at h;simp only at h;cases n with
  |zero=>
   have h:(qci cfg cf kf nid ty t [.nilS] H λv H1=>qci cfg cf kf nid ty t [.em] H λv2 H2=>kEqR (v,H1) (v2,H2) (k v H1))=some r:=h;obtain⟨v,H1,h1,h⟩:=qcL hkf h;obtain⟨v2,H2,h2,h⟩:=qcL hkf h;unfold kEqR at h;split at h
   case isFalse=>cases h
   rename_i he;exact⟨v,H1,by simp only[h1,h2,he,qpK,if_true],h⟩
  |succ n=>exact qcL hkf h
theorem qvl{f:AV}{args:List AV}{k:Tgt->List AV->Option α}(h:kTgt f args k=some r):∃t,zu f args=some t∧k t.1 t.2=some r:=by
 unfold kTgt at h;unfold zu;split at h
 ·exact⟨_,rfl,h⟩
 ·exact⟨_,rfl,h⟩
 ·cases h
theorem qvt{ids:List Nat}{v:AV}{k:KV α}(hi:∀id∈v.msIds,id∈ids)(h:qtb H v k=some r):k (v.frz ids H)=some r:=by
 unfold qtb at h;split at h
 ·rename_i cs;have:=qc6 (ids:=ids) (λv hv id off len e=>hi id (qeA hv e)) h
  simpa [AV.frz,Function.comp_def]using this
 ·rename_i cs;have:=qc6 (k:=λcs=>k (.tup cs)) (ids:=ids) (λv hv id off len e=>hi id (qeA hv e)) h
  simpa [AV.frz,Function.comp_def]using this
 ·rename_i h1 h2;have h4:=(qcf h).1 ids (λid off len e=>hi id (by subst e;simp[AV.msIds,AV.msId])) rfl;have e1:v.frz ids H=v.frz1 ids H:=by
   cases v<;>first|rfl|exact absurd rfl (h1 _)|exact absurd rfl (h2 _)
  rw[e1];exact h4
theorem qgl{ids:List Nat}:∀{l:List AV} {k:List AV->Option α},(∀v∈l,∀id∈v.msIds,id∈ids)->qhI H l k=some r->k (l.map λv=>v.frz ids H)=some r
 |[],k,_,h=>h
 |a::l,k,hi,h=>by
  rw[qhI]at h;have h1:=qvt (ids:=ids) (hi a (by simp)) h;exact qgl (k:=λl=>k (a.frz ids H::l)) (λv hv=>hi v (by simp[hv])) h1
theorem qyl{a b:Operand}(h:opEq a b=true):a=b:=by
 cases a<;>cases b<;>simp_all [opEq]
theorem qrZ{y:Operand->AV}(a:Operand):∀l:List Operand,frzX l (l.map y) y a=y a
 |[]=>rfl
 |b::l=>by
  rw[qBZ,frzX];cases hb:opEq b a with
  |true=>rw[cond_true,qyl hb]
  |false=>rw[cond_false];exact qrZ a l
theorem qlr{cfg:Cfg}{nid:Option Nat}{o:Oper}{x:Operand->AV}{k:KH α}(h:qoe cfg nid o x H k=some r):
  kOp cfg nid o.op o.type (λa=>(x a).frz (o.op.operands.toList.flatMap λa=>(x a).msIds) H) (vm (o.op.operands.toList.flatMap λa=>(x a).msIds) H) k=some r:=by
 unfold qoe at h;have h1:=qgl (ids:=o.op.operands.toList.flatMap λa=>(x a).msIds) (λv hv id hid=>by
  obtain⟨a,ha,rfl⟩:=List.mem_map.1 hv;exact List.mem_flatMap.2 ⟨a,ha,hid⟩) h
 rw[List.map_map]at h1;have e:frzX o.op.operands.toList (o.op.operands.toList.map ((λv=>v.frz (o.op.operands.toList.flatMap λa=>(x a).msIds) H)∘x)) (λa=>(x a).frz (o.op.operands.toList.flatMap λa=>(x a).msIds) H)=λa=>(x a).frz (o.op.operands.toList.flatMap λa=>(x a).msIds) H:=funext λa=>qrZ a _
 rw[e]at h1;exact h1
theorem qgi{cfg:Cfg}{cf:Orac}{kf:KF α}(hkf:KfOk cf kf){frz:Bool}{nid:Option Nat}{o:Oper}{x:Operand->AV}{k:KH α}(h:qll cfg cf kf frz nid o x H k=some r):∃v H',vI cfg cf frz nid o x H=some (v,H')∧k v H'=some r:=by
 have core:∀{x:Operand->AV} {H:AH},(match o.op with
   | .call c=>
    match c.callee with
    | .value f=>kTgt (x f) (c.args.toList.map x) λt al=>qlx cfg cf kf nid o.type t al H k
    |_=>kOp cfg nid o.op o.type x H k
   |_=>kOp cfg nid o.op o.type x H k)=some r->∃v H',(match o.op with
    | .call c=>
     match c.callee with
     | .value f=>(zu (x f) (c.args.toList.map x)).bind λt=>xH cfg cf nid t.1 t.2 H
     |_=>evOp cfg nid o.op o.type x H
    |_=>evOp cfg nid o.op o.type x H)=some (v,H')∧k v H'=some r:=by
  intro x H h;cases ho:o.op with
  |call c=>
   simp only[ho]at h⊢;cases hc:c.callee with
   |value f=>
    simp only[hc]at h⊢;obtain⟨t,h1,h⟩:=qvl h;obtain⟨v,H',h2,hz⟩:=qth hkf h;exact⟨v,H',by rw[h1];exact h2,hz⟩
   |_=>simp only[hc]at h⊢;exact qpi h
  |_=>simp only[ho]at h⊢;exact qpi h
 unfold qll at h;unfold vI;cases frz with
 |true=>
  simp only[cond_true]at h;simp only[if_true];refine core (x:=λa=>(x a).frz (o.op.operands.toList.flatMap λa=>(x a).msIds) H) (H:=vm (o.op.operands.toList.flatMap λa=>(x a).msIds) H) ?_;cases ho:o.op with
  |call c=>
   simp only[ho]at h⊢;cases hc:c.callee with
   |value f=>
    simp only[hc]at h⊢;have h1:=qgl (ids:=(Op.call c).operands.toList.flatMap λa=>(x a).msIds) (λv hv id hid=>by
     obtain⟨a,ha,rfl⟩:=List.mem_map.1 hv;refine List.mem_flatMap.2 ⟨a,?_,hid⟩;simp[Op.operands,Call.operands,hc,Array.mem_toList_iff.1 ha]) h
    rw[List.map_map]at h1;exact h1
   |_=>simp only[hc]at h⊢;have h:=qlr h;rw[ho]at h;exact h
  |_=>simp only[ho]at h⊢;have h:=qlr h;rw[ho]at h;exact h
 |false=>simp only[cond_false]at h;simp only[qBu,if_false];exact core h
theorem qjC{fr:List AV}{d:Nat}{v:AV}(h:fr[d]? =some v):fr.set d v=fr:=by
 obtain⟨hl,e⟩:=qBn.1 h;rw[←e];exact List.set_getElem_self hl
theorem qeb{ops:Array Oper}{fr:List AV}{o:Oper}{k:Bool->List AV->Option α}(h:qfG ops fr o k=some r):∃b,xP ops fr o=some b∧k b fr=some r:=by
 unfold qfG at h;unfold xP;split at h
 ·rename_i hg;rw[hg];exact⟨true,rfl,h⟩
 ·rename_i j want hg;rw[hg];simp only;split at h
  ·rename_i d hd;rw[hd];simp only;obtain⟨v,h1,h⟩:=qH h;rw[h1];split at h
   ·split at h
    ·exact⟨false,rfl,h⟩
    ·cases h
   ·obtain⟨b,rfl,h⟩:=qdw h;simp only;refine⟨_,rfl,?_⟩;rcases yx h with⟨rfl,h⟩|⟨rfl,h⟩
    ·rw[qjC h1]at h;cases want<;>exact h
    ·rw[qjC h1]at h;cases want<;>exact h
  ·cases h
theorem qhD{cfg:Cfg}{cf:Orac}{kf:KF α}(hkf:KfOk cf kf){f rid:Nat}{ops:Array Oper}:∀{l:List Oper} {n:Nat} {fr:List AV} {H:AH} {k:List AV->AH->Option α},kOps cfg cf kf f rid ops n l fr H k=some r->∃q,zU cfg cf f rid ops n l fr H=some q∧k q.1 q.2=some r
 |[],n,fr,H,k,h=>⟨(fr,H),rfl,h⟩
 |o::l,n,fr,H,k,h=>by
  rw[kOps]at h;obtain⟨b,h1,h⟩:=qeb h;rw[zU,h1];simp only[qBs];rcases yx h with⟨rfl,h⟩|⟨rfl,h⟩
  ·obtain⟨v,H',h2,h⟩:=qgi hkf h;simp only[if_true,h2,qBs];exact qhD hkf h
  ·simp only[qBu,if_false];exact qhD hkf h
theorem qgo{cfg:Cfg}{cf:Orac}{kf:KF α}(hkf:KfOk cf kf){f rid:Nat}{ops:Array Oper}:∀{l:List Oper} {n at_:Nat} {fr:List AV} {H:AH} {k:List DR->List AV->AH->Option α},qlw cfg cf kf f rid ops n at_ l fr H k=some r ->
  ∃q,yr cfg cf f rid ops n at_ l fr H=some q∧k q.1 q.2.1 q.2.2=some r
 |[],n,at_,fr,H,k,h=>⟨([],fr,H),rfl,h⟩
 |o::l,n,at_,fr,H,k,h=>by
  rw[qlw]at h;obtain⟨b,h1,h⟩:=qeb h;rw[yr,h1];simp only[qBs];rcases yx h with⟨rfl,h9⟩|⟨rfl,h9⟩
  ·obtain⟨v,H',h2,h8⟩:=qgi hkf h9;simp only[if_true,h2,qBs];obtain⟨q,h3,hz⟩:=qgo hkf h8;exact⟨_,by rw[h3];rfl,hz⟩
  ·simp only[qBu,if_false];obtain⟨q,h3,hz⟩:=qgo hkf h9;exact⟨_,by rw[h3];rfl,hz⟩
theorem qlf{fr:List AV}{c:Operand}{b:Bool}(h:opd fr c= .bool b):known fr c b=fr:=by
 cases c with
 |tmp d=>
  simp only[known];have hg:fr[d]? =some (.bool b):=by
   have h':fr.getD d .junk= .bool b:=h;rw[List.getD_eq_getElem?_getD]at h';cases hd:fr[d]? with
   |none=>rw[hd]at h';cases h'
   |some v=>rw[hd]at h';simp at h';rw[h']
  exact qjC hg
 |_=>rfl
theorem qhC{cfg:Cfg}{cf:Orac}{kf:KF α}(hkf:KfOk cf kf){f rid:Nat}{ops:Array Oper}:∀{l:List (Nat×Oper)} {fr:List AV} {H:AH} {k:List AV->AH->Option α},kOrd cfg cf kf f rid ops l fr H k=some r->∃q,qcT cfg cf f rid ops l fr H=some q∧k q.1 q.2=some r
 |[],fr,H,k,h=>⟨(fr,H),rfl,h⟩
 |p::l,fr,H,k,h=>by
  rw[kOrd]at h;obtain⟨b,h1,h⟩:=qeb h;rw[qcT,qc8,h1];simp only[qBs];rcases yx h with⟨rfl,h⟩|⟨rfl,h⟩
  ·obtain⟨v,H',h2,h⟩:=qgi hkf h;simp only[if_true,h2,qBD,qBs];exact qhC hkf h
  ·simp only[qBu,if_false,qBs];exact qhC hkf h
theorem qli{β:Type}{F:β->KE α->Option α}{E:β->Option (List AV×AH)}{G:List AV->AH->Option (Ex×List AV×AH)}(hF:∀o (k:KE α),F o k=some r->∃p q,E o=some p∧G p.1 p.2=some q∧k q.1 q.2.1 q.2.2=some r){g:Ex->List AV->AH->Ex×List AV×AH}{z:Ex×List AV×AH}{x:Option α}:∀{l:List β},qs8 F g z l x=some r->∃L,l.map E=L.map some∧qad (λfr H=>(G fr H).map λq=>g q.1 q.2.1 q.2.2) z L=true∧x=some r
 |[],h=>⟨[],rfl,rfl,h⟩
 |o::l,h=>by
  obtain⟨p,q,h0,h1,h2⟩:=hF _ _ h;unfold kEqR at h2;split at h2
  case isFalse=>cases h2
  rename_i he;obtain⟨L,h3,h4,h5⟩:=qli hF h2;refine⟨p::L,by rw[qBZ,qBZ,h0,h3],?_,h5⟩;simp only[qad,h1,qBD,←he,qpK,Bool.or_true,h4,qBw]
theorem qtf{β:Type}{F:β->KE α->Option α}{E:β->Option (List AV×AH)}{G:List AV->AH->Option (Ex×List AV×AH)}(hF:∀o (k:KE α),F o k=some r->∃p q,E o=some p∧G p.1 p.2=some q∧k q.1 q.2.1 q.2.2=some r){g:Ex->List AV->AH->Ex×List AV×AH}{k:KE α}{O:List β}(h:qx2 F g k O=some r):
  ∃L q,O.map E=L.map some∧qaB (λfr H=>(G fr H).map λq=>g q.1 q.2.1 q.2.2) L=some q∧k q.1 q.2.1 q.2.2=some r:=by
 cases O with
 |nil=>cases h
 |cons o l=>
  obtain⟨p,q,h0,h1,h2⟩:=hF _ _ h;obtain⟨L,h3,h4,h5⟩:=qli hF h2;refine⟨p::L,g q.1 q.2.1 q.2.2,by rw[qBZ,qBZ,h0,h3],?_,h5⟩;simp only[qaB,h1,qBD,qBs,h4,if_true]
theorem qnn{cfg:Cfg}{cf:Orac}{f rid:Nat}{ops:Array Oper}{fr:List AV}{H:AH}:∀{O:List (List (Nat×Oper))} {L:List (List AV×AH)},O.map (λo=>qcT cfg cf f rid ops o fr H)=L.map some->zk cfg cf f rid ops O fr H=some L
 |[],[],_=>rfl
 |[],_::_,h=>by cases h
 |_::_,[],h=>by cases h
 |o::O,q::L,h=>by
  rw[qBZ,qBZ,List.cons.injEq]at h;simp only[zk,h.1,qBs,qnn h.2,qBD]
theorem qdv{cfg:Cfg}{cf:Orac}{kf:KF α}(hkf:KfOk cf kf){f:Nat}{rd:Option Nat}{bs:Nat}:∀(c:Code) {fr:List AV} {H:AH} {k:KE α},vh cfg cf kf f rd bs c fr H k=some r->∃q,evC cfg cf f rd bs c fr H=some q∧k q.1 q.2.1 q.2.2=some r:=by
 intro c
 induction c with
 |skip=>intro fr H k h;exact⟨(.normal,fr,H),by simp only[evC],by simpa only[vh]using h⟩
 |label l=>intro fr H k h;exact⟨(.normal,fr,H),by simp only[evC],by simpa only[vh]using h⟩
 |exit id=>intro fr H k h;exact⟨(.exit id,fr,H),by simp only[evC],by simpa only[vh]using h⟩
 |ret=>intro fr H k h;exact⟨(.ret,fr,H),by simp only[evC],by simpa only[vh]using h⟩
 |goto l=>intro fr H k h;simp only[vh]at h;cases h
 |refuse s=>intro fr H k h;simp only[vh]at h;cases h
 |region id ops draw=>
  intro fr H k h;simp only[vh]at h;simp only[evC];cases draw with
  |true=>
   simp only[cond_true]at h;simp only[if_true];obtain⟨h1,h⟩:=qm h;obtain⟨q,h2,h⟩:=qgo hkf h;obtain⟨h3,hz⟩:=qm h;exact⟨(.normal,q.2),by simp only[h1,if_true,h2,qBs,h3],hz⟩
  |false=>
   simp only[cond_false]at h;simp only[qBu,if_false];obtain⟨q,h2,hz⟩:=qhD hkf h;exact⟨(.normal,q),by simp only[h2,qBD],hz⟩
 |seq x y ihx ihy=>
  intro fr H k h;simp only[vh]at h;simp only[evC];cases hco:qdb x with
  |some p=>
   rw[hco]at h;simp only at h⊢;split at h
   case h_2=>cases h
   rename_i O hO;obtain⟨L,q,h0,hq1,hq2⟩:=qtf (E:=λo=>qcT cfg cf f p.1 p.2 o fr H) (G:=λfr H=>evC cfg cf f rd bs y (vW (cfg.cut f (qk y)) fr) H) (λo k h=>by
    obtain⟨p',g1,g2⟩:=qhC hkf h;obtain⟨q',g3,g4⟩:=ihy g2;exact⟨p',q',g1,g3,g4⟩) h
   exact⟨q,by rw[qlQ _ _ hO (qnn h0)];exact hq1,hq2⟩
  |none=>?_
  rw[hco]at h;simp only at h⊢;obtain⟨q,h1,h⟩:=ihx h;rw[h1];simp only[qBs];unfold kSeq at h;cases hq:q.1 with
  |normal=>simp only[hq]at h⊢;exact ihy (qq8 h)
  |exit id=>simp only[hq]at h⊢;exact⟨_,rfl,h⟩
  |goto l=>simp only[hq]at h⊢;exact⟨_,rfl,h⟩
  |ret=>simp only[hq]at h⊢;exact⟨_,rfl,h⟩
 |cond cnd x y ihx ihy=>
  intro fr H k h;simp only[vh]at h;simp only[evC];obtain⟨b,h1,h⟩:=qdw h;rw[h1];simp only;rcases yx h with⟨rfl,h⟩|⟨rfl,h⟩
  ·rw[qlf h1]at h;simp only[if_true];exact ihx h
  ·rw[qlf h1]at h;simp only[qBu,if_false];exact ihy h
 |block id x ih=>
  intro fr H k h;simp only[vh]at h;simp only[evC];obtain⟨q,h1,h⟩:=ih h;rw[h1];simp only[qBs];unfold vP at h;cases hq:q.1 with
  |normal=>simp only[hq]at h⊢;exact⟨_,rfl,by rw[hq];exact h⟩
  |exit id'=>
   simp only[hq]at h⊢;rcases yx h with⟨h2,hz⟩|⟨h2,hz⟩
   ·exact⟨_,by simp only[h2,if_true];rfl,hz⟩
   ·exact⟨q,by simp only[h2,qBu,if_false],by rw[hq];exact hz⟩
  |goto l=>simp only[hq]at h⊢;exact⟨_,rfl,by rw[hq];exact h⟩
  |ret=>simp only[hq]at h⊢;exact⟨_,rfl,by rw[hq];exact h⟩
 |loop x ih=>
  intro fr H k h;simp only[vh]at h;simp only[evC];obtain⟨q,h1,hz⟩:=qH h;exact⟨(q.1,vW (cfg.keepOut f (qk x)) q.2.1,q.2.2),by rw[h1];rfl,hz⟩
 |scope x ih=>
  intro fr H k h;simp only[vh]at h;simp only[evC];obtain⟨q,h1,h⟩:=ih h;rw[h1];simp only[qBs];unfold qfH at h;cases hq:q.1 with
  |goto l=>simp only[hq]at h;cases h
  |normal=>simp only[hq]at h⊢;exact⟨_,rfl,by rw[hq];exact h⟩
  |exit id=>simp only[hq]at h⊢;exact⟨_,rfl,by rw[hq];exact h⟩
  |ret=>simp only[hq]at h⊢;exact⟨_,rfl,by rw[hq];exact h⟩
 |rangeFunc g ps assign body=>
  intro fr H k h;simp only[vh]at h;simp only[evC];generalize (vT (cfg.lift f (qk body)) fr H).1=fr at h⊢;generalize (vT (cfg.lift f (qk body)) _ H).2=H at h⊢;unfold qvq at h;obtain⟨h1,h⟩:=qm h;split at h
  case h_2=>cases h
  rename_i g' first caps hg;obtain⟨h2,h⟩:=qm h;obtain⟨q,h3,h⟩:=hkf _ _ _ _ _ h;unfold ym at h;obtain⟨b,h4,h⟩:=qH h;unfold qx0 at h;split at h
  case h_2=>cases h
  rename_i pend st;have hx:¬(cfg.ext g').isSome=true:=by
   cases he:cfg.ext g' with
   |none=>simp
   |some s=>rw[he]at h2;cases h2
  have hst:st≠.busy:=by
   intro e;subst e;simp at h
  have hpk:qph pend k (gc bs (vW (cfg.keepOut f (qk body)) fr) (q.2.set H.length .dead)).1 (gc bs (vW (cfg.keepOut f (qk body)) fr) (q.2.set H.length .dead)).2=some r:=by
   cases st with
   |busy=>exact absurd rfl hst
   |_=>exact h
  unfold qaH;rw[qB5 h1,hg];simp only[hx,h3,qBs,h4];unfold qph at hpk;cases st with
  |busy=>exact absurd rfl hst
  |_=>
   cases pend with
   |none=>exact⟨_,rfl,hpk⟩
   |some c=>
    cases c<;>first|exact⟨_,rfl,hpk⟩|cases hpk
theorem qeF{cfg:Cfg}{fr:List AV}:∀{rs:List ResultVar} {k:List AV->Option α},kRes cfg fr H rs k=some r->∃vs,yj rs cfg.ty fr H=some vs∧k vs=some r
 |[],k,h=>⟨[],rfl,h⟩
 | .tmp t::l,k,h=>by
  rw[kRes]at h;obtain⟨vs,h1,hz⟩:=qeF h;exact⟨_,by simp only[yj,h1,qBD],hz⟩
 | .cell a t::l,k,h=>by
  rw[kRes]at h;split at h
  ·rename_i ti hti;obtain⟨v,h1,h⟩:=qgj h;have h2:=xl (k:=λv=>kRes cfg fr H l λvs=>k (v::vs)) h;obtain⟨vs,h3,hz⟩:=qeF h2;exact⟨_,by simp only[yj,hti,h1,qBs,h3,qBD],hz⟩
  ·cases h
variable {α : Type}
def fxGo(i:Nat)(l:List (Nat×AV)):Nat->List AV
 |0=>[]
 |n+1=>match l with
  |[]=>.junk::fxGo (i+1) [] n
  |p::l'=>if qBh p.1 i then p.2::fxGo (i+1) l' n else .junk::fxGo (i+1) (p::l') n
def fx(n:Nat)(l:List (Nat×AV)):List AV:=fxGo 0 l n
def qg(fn:Func):Code:=match fn.body with|some c=>c|none=>.skip
def sub:Code->List Nat->Code
 |c,[]=>c
 | .seq a b,i::l=>match i with|0=>sub a l|_=>sub b l
 | .cond _ a b,i::l=>match i with|0=>sub a l|_=>sub b l
 | .block _ a,_::l=>sub a l
 | .loop a,_::l=>sub a l
 | .scope a,_::l=>sub a l
 | .rangeFunc _ _ a b,i::l=>match i with|0=>sub a l|_=>sub b l
 |c,_=>c
def rngB(fn:Func)(f:Nat)(p:List Nat)(fr:List AV)(pend:Option Code)(st:LoopState):ABlk:=
 match sub (qg fn) p with
 | .rangeFunc _ ps a b=>.loop f fr ps.toList a b pend st
 |_=>.dead
def qez:Code->Array Oper
 | .region _ o _=>o
 |_=> #[]
def kLp(k:Nat)(ts:Option (List Tmp))(ls:List (Tmp×Nat))(L:Den)(A:Ex×List AV×AH->Option α):KE α:=λe fr H=>
 match e with
 | .normal=>kOpt (LOOP k ts ls L (yY k ts ls fr H)) A
 |e=>A (e,fr,H)
theorem qs2{cfg:Cfg}{kf:KF α}(hkf:KfOk (EV cfg) kf){f:Nat}{rd:Option Nat}{bs:Nat}{c:Code}{k:Nat}{ts:Option (List Tmp)}{ls:List (Tmp×Nat)}{A:Ex×List AV×AH->Option α}{fr:List AV}{H:AH}{r:α}(h:vh cfg (EV cfg) kf f rd bs c fr H (kLp k ts ls (evC cfg (EV cfg) f rd bs c) A)=some r):kOpt (LOOP k ts ls (evC cfg (EV cfg) f rd bs c) (fr,H)) A=some r:=by
 obtain⟨⟨e,fr1,H1⟩,h1,h2⟩:=qdv hkf c h;cases e with
 |normal=>
  simp only[kLp]at h2;cases hl:LOOP k ts ls (evC cfg (EV cfg) f rd bs c) (yY k ts ls fr1 H1)with
  |none=>rw[hl]at h2;cases h2
  |some q=>
   rw[hl]at h2;rw[qwo (p:=(fr,H)) h1 hl];exact h2
 |exit id=>rw[qh6 (p:=(fr,H)) h1 (λx=>by intro h;cases h)];exact h2
 |goto l=>rw[qh6 (p:=(fr,H)) h1 (λx=>by intro h;cases h)];exact h2
 |ret=>rw[qh6 (p:=(fr,H)) h1 (λx=>by intro h;cases h)];exact h2
def xO(cfg:Cfg)(ls:List (Tmp×Nat))(g:AV->AH->Option α)(rs:List ResultVar):KE α:=λe fr H=>
 match e with
 | .normal=>kRes cfg (vT ls fr H).1 (vT ls fr H).2 rs λvs=>g (z5 vs) (vT ls fr H).2
 | .ret=>kRes cfg (vT ls fr H).1 (vT ls fr H).2 rs λvs=>g (z5 vs) (vT ls fr H).2
 |_=>none
def qaM(cfg:Cfg)(ls:List (Tmp×Nat))(rs:List ResultVar):KE AV:=xO cfg ls (λv _=>some v) rs
def xz(cfg:Cfg)(ls:List (Tmp×Nat))(rs:List ResultVar):KE AV:=xO cfg ls (λv H=>qce false H v some) rs
def qA8(cfg:Cfg)(ls:List (Tmp×Nat))(rs:List ResultVar):KE OV:=xO cfg ls (λv H=>ovOf (v,H)) rs
def kOv2(v:AV)(H:AH):Option (OV×AV):=
 match v with
 | .tup [a,s]=>qce false H s λs'=>cond (s'.refsLt 0) (match ovOf (a,vm s.msIds H)with|some o=>some (o,s')|none=>none) none
 |_=>none
theorem qvr{v:AV}{H:AH}{r:OV×AV}(h:kOv2 v H=some r):qn4 (v,H)=some r:=by
 unfold kOv2 at h;unfold qn4;split at h
 ·rename_i a s;exact qbU (k:=λs'=>cond (s'.refsLt 0) (match ovOf (a,vm s.msIds H)with|some o=>some (o,s')|none=>none) none) h
 ·cases h
def qlt(cfg:Cfg)(ls:List (Tmp×Nat))(rs:List ResultVar):KE (OV×AV):=xO cfg ls kOv2 rs
def qis(cfg:Cfg)(sz:Nat)(ls:List (Tmp×Nat))(rs:List ResultVar):KE (MV×List (List AV)):=xO cfg ls (λv H=>(qk1 sz (v,H)).bind λq=>(mvOf q.1).map λv=>(v,q.2)) rs
def qbC(cfg:Cfg)(cf:Orac)(kf:KF α)(f:Nat)(fn:Func)(c:Code)(args:List AV)(H:AH)(fin:KE α):Option α:=
 vh cfg cf kf f none H.length c (args++qBI (fn.ntmps - args.length) .junk) H fin
theorem qji{cfg:Cfg}{kf:KF α}(hkf:KfOk (EV cfg) kf){g:AV->AH->Option α}{f:Nat}{fn:Func}{args:List AV}{H:AH}{r:α}(hx:cfg.ext f=none)(hk:cfg.known f=true)(hf:cfg.P.funcs[f]? =some fn)(hb:fn.body=some (qg fn))(h:qbC cfg (EV cfg) kf f fn (qg fn) args H (xO cfg (cfg.lift f 0) g fn.results.toList)=some r):∃v H',EV cfg (.f f) args H=some (v,H')∧g v H'=some r:=by
 unfold qbC at h;obtain⟨q,h1,h⟩:=qdv hkf _ h;have key:∀(vs:List AV),yj fn.results.toList cfg.ty (vT (cfg.lift f 0) q.2.1 q.2.2).1 (vT (cfg.lift f 0) q.2.1 q.2.2).2=some vs->(q.1= .normal∨q.1= .ret)->EV cfg (.f f) args H=some (z5 vs,(vT (cfg.lift f 0) q.2.1 q.2.2).2):=by
  intro vs h2 hq;refine qoj ?_;unfold yg;simp only[hx,hk,if_true,hf,hb,h1,qBs];unfold qc7;rcases hq with hq|hq<;>simp only[hq,h2,qBD]
 unfold xO at h;split at h
 ·rename_i hq;obtain⟨vs,h2,h⟩:=qeF h;exact⟨_,_,key vs h2 (.inl hq),h⟩
 ·rename_i hq;obtain⟨vs,h2,h⟩:=qeF h;exact⟨_,_,key vs h2 (.inr hq),h⟩
 ·cases h
def kY2(id:Nat)(K:AV×AH->Option α):KE α:=λe _ H=>
 kOpt H[id]? λb=>match b with
  | .loop f fr ps a b _ _=>(match e with
   | .normal=>K (.bool true,H.set id (.loop f fr ps a b none .ready))
   | .ret=>K (.bool false,H.set id (.loop f fr ps a b (some .ret) .done))
   | .exit x=>K (.bool false,H.set id (.loop f fr ps a b (some (.exit x)) .done))
   | .goto _=>none)
  |_=>none
def kY1(cfg:Cfg)(cf:Orac)(kf:KF α)(bs f id:Nat)(body:Code)(K:AV×AH->Option α):KE α:=λe fr H=>
 match e with
 | .normal=>kOpt H[id]? λb=>match b with
  | .loop f' fr' ps' a' b' p' st=>(match st with
   | .ready=>vh cfg cf kf f (some id) bs body fr (H.set id (.loop f' fr' ps' a' b' p' .busy)) (kY2 id K)
   |_=>none)
  |_=>none
 |_=>none
def kY(cfg:Cfg)(cf:Orac)(kf:KF α)(id:Nat)(args:List AV)(H:AH)(K:AV×AH->Option α):Option α:=
 kOpt H[id]? λb=>match b with
  | .loop f fr ps assign body _ st=>(match st with
   | .ready=>cond (qBh args.length ps.length) (vh cfg cf kf f (some id) H.length assign (zb fr ps args) H (kY1 cfg cf kf H.length f id body K)) none
   |_=>none)
  |_=>none
theorem qxh{cfg:Cfg}{kf:KF α}(hkf:KfOk (EV cfg) kf){id:Nat}{args:List AV}{H:AH}{K:AV×AH->Option α}{r:α}(h:kY cfg (EV cfg) kf id args H K=some r):∃q,EV cfg (.y id) args H=some q∧K q=some r:=by
 unfold kY at h;obtain⟨b,h1,h⟩:=qH h;cases b with
 |loop f fr ps assign body pend st=>
  simp only at h;cases st with
  |ready=>
   simp only at h;obtain⟨h2,h⟩:=qm h;obtain⟨q,h3,h⟩:=qdv hkf _ h;unfold kY1 at h;cases hq:q.1 with
   |normal=>
    rw[hq]at h;simp only at h;obtain⟨b,h4,h⟩:=qH h;cases b with
    |loop f' fr' ps' a' b' p' st'=>
     simp only at h;cases st' with
     |ready=>
      simp only at h;obtain⟨q2,h5,h⟩:=qdv hkf _ h;unfold kY2 at h;obtain⟨b,h6,h⟩:=qH h;cases b with
      |loop f2 fr2 ps2 a2 b2 p2 st2=>
       have key:∀q',yg cfg (EV cfg) (.y id) args H=some q'->K q'=some r->∃q,EV cfg (.y id) args H=some q∧K q=some r:=λq' h8 h9=>⟨q',qoj h8,h9⟩
       cases hq2:q2.1 with
       |normal=>
        rw[hq2]at h;refine key _ ?_ h;unfold yg;simp only[h1,qB5 (qBo h2),h3,qBs,hq,h4,h5,h6,hq2]
       |ret=>
        rw[hq2]at h;refine key _ ?_ h;unfold yg;simp only[h1,qB5 (qBo h2),h3,qBs,hq,h4,h5,h6,hq2]
       |exit x=>
        rw[hq2]at h;refine key _ ?_ h;unfold yg;simp only[h1,qB5 (qBo h2),h3,qBs,hq,h4,h5,h6,hq2]
       |goto x=>rw[hq2]at h;cases h
      |_=>cases h
     |_=>cases h
    |_=>cases h
   |_=>rw[hq]at h;cases h
  |_=>cases h
 |_=>cases h
class InlOk (cfg:Cfg):Prop where
 ok:∀f fn,cfg.inl f=some fn->cfg.ext f=none∧cfg.known f=true∧cfg.P.funcs[f]? =some fn∧fn.body=some (qg fn)
def qit(f:Nat):List (Nat×Func)->Option Func
 |[]=>none
 |p::l=>if qBh p.1 f then some p.2 else qit f l
def qwp(cfg:Cfg):List (Nat×Func)->Prop
 |[]=>True
 |p::l=>(cfg.ext p.1=none∧cfg.known p.1=true∧cfg.P.funcs[p.1]? =some p.2∧p.2.body=some (qg p.2))∧qwp cfg l
theorem InlOk.of{cfg:Cfg}(tab:List (Nat×Func))(h:∀f,cfg.inl f=qit f tab)(ha:qwp cfg tab):InlOk cfg where
 ok:=by
  intro f fn hf;rw[h]at hf;clear h
  induction tab with
  |nil=>cases hf
  |cons p l ih=>
   rw[qit]at hf;split at hf
   ·rename_i e;have e:=qBo e;cases hf;rw[←e];exact ha.1
   ·exact ih ha.2 hf
def kfN(cfg:Cfg):Nat->KF α
 |0=>λt a H k=>kOpt (EV cfg t a H) k
 |n+1=>λt a H k=>match t with
  | .f f=>(match cfg.inl f with
   |some fn=>qbC cfg (EV cfg) (kfN cfg n) f fn (qg fn) a H (xO cfg (cfg.lift f 0) (λv H=>k (v,H)) fn.results.toList)
   |none=>kOpt (EV cfg (.f f) a H) k)
  | .y id=>kY cfg (EV cfg) (kfN cfg n) id a H k
theorem qlg{cfg:Cfg}[InlOk cfg]:∀n,KfOk (α:=α) (EV cfg) (kfN cfg n)
 |0=>λt a H k r h=>qH h
 |n+1=>λt a H k r h=>by
  unfold kfN at h;cases t with
  |f f=>
   simp only at h;split at h
   ·rename_i fn hf;obtain⟨o1,o2,o3,o4⟩:=InlOk.ok f fn hf;obtain⟨v,H',h1,h2⟩:=qji (qlg n) o1 o2 o3 o4 h;exact⟨_,h1,h2⟩
   ·exact qH h
  |y id=>exact qxh (qlg n) h
theorem qB{cfg:Cfg}[InlOk cfg]{f:Nat}{rd:Option Nat}{bs:Nat}{c:Code}{k:Nat}{ts:Option (List Tmp)}{ls:List (Tmp×Nat)}{A:Ex×List AV×AH->Option α}{fr:List AV}{H:AH}{r:α}(h:vh cfg (EV cfg) (kfN cfg 6) f rd bs c fr H (kLp k ts ls (evC cfg (EV cfg) f rd bs c) A)=some r):kOpt (LOOP k ts ls (evC cfg (EV cfg) f rd bs c) (fr,H)) A=some r:=qs2 (qlg 6) h
theorem zB{cfg:Cfg}[InlOk cfg]{g:AV->AH->Option α}{f:Nat}{fn:Func}{args:List AV}{H:AH}{r:α}(hx:cfg.ext f=none)(hk:cfg.known f=true)(hf:cfg.P.funcs[f]? =some fn)(hb:fn.body=some (qg fn))(h:qbC cfg (EV cfg) (kfN cfg 6) f fn (qg fn) args H (xO cfg (cfg.lift f 0) g fn.results.toList)=some r):∃v H',EV cfg (.f f) args H=some (v,H')∧g v H'=some r:=qji (qlg 6) hx hk hf hb h
def Gets{β:Type}(o:Option β)(P:β->Prop):Prop:=∃r,o=some r∧P r
theorem Gets.ev{β:Type}{o o':Option β}{P:β->Prop}(h:∀r,o=some r->o'=some r)(hy:Gets o P):Gets o' P:=by
 obtain⟨r,h1,h2⟩:=hy;exact⟨r,h r h1,h2⟩
theorem Gets.eq{β:Type}{o o':Option β}{P:β->Prop}(h:o'=o)(hy:Gets o P):Gets o' P:=h▸hy
theorem gE{β:Type}{o o' x:Option β}{P:β->Prop}(f:∀r,o=some r->o'=some r)(e:o=x)(h:Gets x P):Gets o' P:=Gets.ev f (Gets.eq e h)
theorem Gets.mono{β:Type}{o:Option β}{P Q:β->Prop}(h:Gets o P)(hq:∀b,P b->Q b):Gets o Q:=by
 obtain⟨r,h1,h2⟩:=h;exact⟨r,h1,hq r h2⟩
theorem Gets.bind{β γ:Type}{o:Option β}{k:β->Option γ}{Q:β->Prop}{P:γ->Prop}(h:Gets o Q)(hk:∀b,Q b->Gets (k b) P):Gets (kOpt o k) P:=by
 obtain⟨r,h1,h2⟩:=h;subst h1;exact hk r h2
@[simp] theorem gets_some{β:Type}{a:β}{P:β->Prop}:Gets (some a) P↔P a:=⟨fun⟨r,h1,h2⟩=>by cases h1;exact h2,λh=>⟨a,rfl,h⟩⟩
theorem Gets.get{β:Type}{o:Option β}{a:β}(h:Gets o (·=a)):o=some a:=by
 obtain⟨r,h1,h2⟩:=h;rw[h1,h2]
theorem qwq{cfg:Cfg}{f:Nat}{args:List AV}{v:AV}{H:AH}(h:EV cfg (.f f) args []=some (v,H)):EVs (EV cfg) f args=some v:=by unfold EVs;rw[h];rfl
theorem qAs{cfg:Cfg}{f:Nat}{args:List AV}{v v':AV}{H:AH}(h:EV cfg (.f f) args []=some (v',H))(e:(v'.frz v'.msIds H).fg=v):EVf (EV cfg) f args=some v:=by unfold EVf;rw[h];exact congrArg some e
theorem qAr{cfg:Cfg}{f:Nat}{args:List AV}{v:OV}{r:AV×AH}(h:EV cfg (.f f) args []=some r)(e:ovOf r=some v):EVo (EV cfg) f args=some v:=by unfold EVo;rw[h];exact e
theorem funS{cfg:Cfg}[InlOk cfg]{f:Nat}{fn:Func}{args:List AV}{r:AV}(hx:cfg.ext f=none)(hk:cfg.known f=true)(hf:cfg.P.funcs[f]? =some fn)(hb:fn.body=some (qg fn))(h:qbC cfg (EV cfg) (kfN cfg 6) f fn (qg fn) args [] (qaM cfg (cfg.lift f 0) fn.results.toList)=some r):EVs (EV cfg) f args=some r:=by
 obtain⟨v,H',h1,h2⟩:=zB hx hk hf hb h;cases h2;exact qwq h1
theorem funF{cfg:Cfg}[InlOk cfg]{f:Nat}{fn:Func}{args:List AV}{r:AV}(hx:cfg.ext f=none)(hk:cfg.known f=true)(hf:cfg.P.funcs[f]? =some fn)(hb:fn.body=some (qg fn))(h:qbC cfg (EV cfg) (kfN cfg 6) f fn (qg fn) args [] (xz cfg (cfg.lift f 0) fn.results.toList)=some r):EVf (EV cfg) f args=some r:=by
 obtain⟨v,H',h1,h2⟩:=zB hx hk hf hb h;exact qAs h1 (Option.some.inj (qbU h2))
theorem funO{cfg:Cfg}[InlOk cfg]{f:Nat}{fn:Func}{args:List AV}{r:OV}(hx:cfg.ext f=none)(hk:cfg.known f=true)(hf:cfg.P.funcs[f]? =some fn)(hb:fn.body=some (qg fn))(h:qbC cfg (EV cfg) (kfN cfg 6) f fn (qg fn) args [] (qA8 cfg (cfg.lift f 0) fn.results.toList)=some r):EVo (EV cfg) f args=some r:=by
 obtain⟨v,H',h1,h2⟩:=zB hx hk hf hb h;exact qAr h1 h2
theorem funQ{cfg:Cfg}[InlOk cfg]{f:Nat}{fn:Func}{args:List AV}{r:OV×AV}(hx:cfg.ext f=none)(hk:cfg.known f=true)(hf:cfg.P.funcs[f]? =some fn)(hb:fn.body=some (qg fn))(h:qbC cfg (EV cfg) (kfN cfg 6) f fn (qg fn) args [] (qlt cfg (cfg.lift f 0) fn.results.toList)=some r):EVq (EV cfg) f args=some r:=by
 obtain⟨v,H',h1,h2⟩:=zB hx hk hf hb h;unfold EVq;rw[h1];exact qvr h2
theorem funM{cfg:Cfg}[InlOk cfg]{f sz:Nat}{fn:Func}{args:List AV}{rows:List (List AV)}{r:MV×List (List AV)}(hx:cfg.ext f=none)(hk:cfg.known f=true)(hf:cfg.P.funcs[f]? =some fn)(hb:fn.body=some (qg fn))(h:qbC cfg (EV cfg) (kfN cfg 6) f fn (qg fn) args [.rows true sz rows] (qis cfg sz (cfg.lift f 0) fn.results.toList)=some r):EVm (EV cfg) f args sz rows=some r:=by
 obtain⟨v,H',h1,h2⟩:=zB hx hk hf hb h;unfold EVm;rw[h1];exact h2
def qcg(cfg:Cfg)(sz:Nat)(ls:List (Tmp×Nat))(rs:List ResultVar):KE (AV×List (List AV)):=xO cfg ls (λv H=>qeI H 0 λd sz' rows=>
 cond (d&&qBh sz' sz&&qcu v.msIds) (qce false H v λv'=>cond (v'.refsLt 0) (some (v',rows)) none) none) rs
theorem funD{cfg:Cfg}[InlOk cfg]{f sz:Nat}{fn:Func}{args:List AV}{rows:List (List AV)}{r:AV×List (List AV)}(hx:cfg.ext f=none)(hk:cfg.known f=true)(hf:cfg.P.funcs[f]? =some fn)(hb:fn.body=some (qg fn))(h:qbC cfg (EV cfg) (kfN cfg 6) f fn (qg fn) args [.rows true sz rows] (qcg cfg sz (cfg.lift f 0) fn.results.toList)=some r):EVd (EV cfg) f args sz rows=some r:=by
 obtain⟨v,H',h1,h2⟩:=zB hx hk hf hb h;unfold EVd;rw[h1];obtain⟨d,sz',rs',h3,h4⟩:=qbh h2;obtain⟨h5,h6⟩:=qm h4;have h7:=qbU (k:=λv'=>cond (v'.refsLt 0) (some (v',rs')) none) h6;obtain⟨h8,h9⟩:=qm h7;simp only[qBi]at h5;obtain⟨⟨hd,hs⟩,hn⟩:=h5;subst hd;cases H' with
 |nil=>simp at h3
 |cons b l=>
  simp only[qBP,Option.some.injEq]at h3;subst h3;simp only[qBs,qlD,hs,hn,h8,qBw,if_true];exact h9
def qx1(cfg:Cfg)(sz:Nat)(ls:List (Tmp×Nat))(rs:List ResultVar):KE (AV×List (List AV)):=xO cfg ls (λv H=>qeI H 0 λd sz' rows=>
 cond (!d&&qBh sz' sz&&qcu v.msIds&&yp [0] (yf 0 rows)) (qce false H v λv'=>cond (v'.refsLt 0) (some (v',rows)) none) none) rs
theorem funX{cfg:Cfg}[InlOk cfg]{f sz:Nat}{fn:Func}{args:List AV}{rows:List (List AV)}{r:AV×List (List AV)}(hx:cfg.ext f=none)(hk:cfg.known f=true)(hf:cfg.P.funcs[f]? =some fn)(hb:fn.body=some (qg fn))(h:qbC cfg (EV cfg) (kfN cfg 6) f fn (qg fn) args [.rows false sz rows] (qx1 cfg sz (cfg.lift f 0) fn.results.toList)=some r):EVx (EV cfg) f args sz rows=some r:=by
 obtain⟨v,H',h1,h2⟩:=zB hx hk hf hb h;unfold EVx;rw[h1];obtain⟨d,sz',rs',h3,h4⟩:=qbh h2;obtain⟨h5,h6⟩:=qm h4;have h7:=qbU (k:=λv'=>cond (v'.refsLt 0) (some (v',rs')) none) h6;obtain⟨h8,h9⟩:=qm h7;simp only[qBi,Bool.not_eq_true']at h5;obtain⟨⟨⟨hd,hs⟩,hn⟩,ha⟩:=h5;subst hd;cases H' with
 |nil=>simp at h3
 |cons b l=>
  simp only[qBP,Option.some.injEq]at h3;subst h3;simp only[qBs,qkH,hs,hn,h8,ha,qBw,if_true];exact h9
def qcK(cfg:Cfg)(k:Nat)(ls:List (Tmp×Nat))(rs:List ResultVar):KE (AV×AH):=xO cfg ls (λv H=>qce false H v λv'=>qiq k v' (vm v.msIds H)) rs
theorem funJ{cfg:Cfg}[InlOk cfg]{f k:Nat}{fn:Func}{args:List AV}{G:AH}{r:AV×AH}(hx:cfg.ext f=none)(hk:cfg.known f=true)(hf:cfg.P.funcs[f]? =some fn)(hb:fn.body=some (qg fn))(h:qbC cfg (EV cfg) (kfN cfg 6) f fn (qg fn) args G (qcK cfg k (cfg.lift f 0) fn.results.toList)=some r):EVj (EV cfg) f k args G=some r:=by
 obtain⟨v,H',h1,h2⟩:=zB hx hk hf hb h;unfold EVj;rw[h1];exact qbU (k:=λv'=>qiq k v' (vm v.msIds H')) h2
@[simp] theorem nble(a b:Nat):qBv a b=decide (a<=b):=by
 rcases h:qBv a b with _|_
 ·rw[eq_comm,decide_eq_false_iff_not];intro h';rw[Nat.ble_eq_true_of_le h']at h;cases h
 ·rw[eq_comm,decide_eq_true_eq];exact Nat.le_of_ble_eq_true h
@[simp] theorem nbeq(a b:Nat):qBh a b=decide (a=b):=by
 rcases h:qBh a b with _|_
 ·rw[eq_comm,decide_eq_false_iff_not];intro h';rw[h',qBL]at h;cases h
 ·rw[eq_comm,decide_eq_true_eq];exact qBo h
@[simp] theorem leInt_eq(a b:Int):qh a b=decide (a<=b):=rfl
@[simp] theorem ltInt_eq(a b:Int):qn a b=decide (a<b):=rfl
theorem beqD{β:Type}[BEq β][LawfulBEq β][DecidableEq β](a b:β):(a==b)=decide (a=b):=by
 by_cases h:a=b
 ·subst h;simp
 ·simp[h]
theorem bneD{β:Type}[BEq β][LawfulBEq β][DecidableEq β](a b:β):(a != b)= !decide (a=b):=by rw[bne,beqD]
def AV.IsInt(v:AV):Prop:=∃n,v= .int .i64 n
def AV.IsBool(v:AV):Prop:=∃b,v= .bool b
@[simp] theorem isInt_int(n:Int):(AV.int .i64 n).IsInt:=⟨n,rfl⟩
@[simp] theorem isBool_bool(b:Bool):(AV.bool b).IsBool:=⟨b,rfl⟩
@[simp] theorem qc{β:Type}(b:β)(k:β->Option α):kOpt (some b) k=k b:=rfl
@[simp] theorem kOptNone{β:Type}(k:β->Option α):kOpt none k=none:=rfl
@[simp] theorem qhH(kd:IntKind)(n:Int)(k:Int->Option α):qcd kd (.int kd n) k=k n:=by simp[qcd,qa0]
@[simp] theorem qi(kd:IntKind)(n:Int)(k:Int->Option α):kInt kd (.int kd n) k=k n:=by simp[kInt,qa0]
@[simp] theorem qd(b:Bool)(k:Bool->Option α):qu (.bool b) k=k b:=rfl
@[simp] theorem qw(s:List UInt8)(k:List UInt8->Option α):kStr (.str s) k=k s:=rfl
@[simp] theorem q7(cs:List AV)(k:List AV->Option α):kAgg (.agg cs) k=k cs:=rfl
@[simp] theorem ql(c:AV)(cs:List AV)(k:AV->List AV->Option α):qa (c::cs) k=k c cs:=rfl
@[simp] theorem qq(c:ABlk)(cs:AH)(k:ABlk->AH->Option α):qf (c::cs) k=k c cs:=rfl
@[simp] theorem qy(x:Option α):qT [] x=x:=rfl
@[simp] theorem qt(c:List AV)(cs:List (List AV))(k:List AV->List (List AV)->Option α):qN (c::cs) k=k c cs:=rfl
@[simp] theorem qC(x:Option α):qX [] x=x:=rfl
@[simp] theorem qp(d:Bool)(n:Nat)(rs:List (List AV))(k:Bool->Nat->List (List AV)->Option α):qj (.rows d n rs) k=k d n rs:=rfl
@[simp] theorem vY(d:Bool)(es:List (AV×AV))(k:Bool->List (AV×AV)->Option α):kMpB (.mp d es) k=k d es:=rfl
@[simp] theorem qO(a b c:Nat)(k:Nat->Nat->Nat->Option α):kMsE (.ms a b c) k=k a b c:=rfl
@[simp] theorem vX(a:Nat)(k:Nat->Option α):kMpE (.mp a) k=k a:=rfl
@[simp] theorem qnj(a b c:Nat)(k:Nat->Nat->Nat->Option α):qlk (.ptr a b c) k=k a b c:=rfl
@[simp] theorem zL(x:Option α)(y:Nat->AV->Option α):ye none x y=x:=rfl
@[simp] theorem yd(p:Nat×AV)(x:Option α)(y:Nat->AV->Option α):ye (some p) x y=y p.1 p.2:=rfl
@[simp] theorem qY(cs:List AV)(k:List AV->Option α):kTup (.tup cs) k=k cs:=rfl
@[simp] theorem qP:beqB false false=true:=rfl
@[simp] theorem qM:beqB true true=true:=rfl
@[simp] theorem qz(n:Nat):qBh n n=true:=qBL n
@[simp] theorem qx(x:Option α):kNil [] x=x:=rfl
@[simp] theorem kMSl_nil(x:Option α)(k:Nat->Nat->Option α):kMSl .nil x k=x:=rfl
@[simp] theorem kMSl_sl(off len:Nat)(x:Option α)(k:Nat->Nat->Option α):kMSl (.sl off len) x k=k off len:=rfl
@[simp] theorem qcJ(x:Option α):qa2 .unit x=x:=rfl
@[simp] theorem xG(b:Bool)(k:Bool->Option α):yc (.bool b) k=k b:=rfl
@[simp] theorem kOwn_nil(x:Option α)(k:Nat->List (List AV)->Nat->Nat->Option α):kOwn .nil x k=x:=rfl
@[simp] theorem qjO(sz:Nat)(rs:List (List AV))(off len:Nat)(x:Option α)(k:Nat->List (List AV)->Nat->Nat->Option α):kOwn (.own sz rs off len) x k=k sz rs off len:=rfl
@[simp] theorem q4(rs:List (List AV))(k:List (List AV)->Option α):kSl (.sl rs) k=k rs:=rfl
@[simp] theorem qI{β:Type}(l:List β)(i:Nat):qBg l i=l[i]? :=rfl
noncomputable section
variable {α β : Type}
def qcR(b:Bool)(k:Bool->α):α:=match b with|true=>k true|false=>k false
def fNat(n:Nat)(k:Nat->α):α:=match n with|0=>k 0|m+1=>k (m+1)
def fInt(n:Int)(k:Int->α):α:=match n with| .ofNat m=>fNat m λm=>k (.ofNat m)| .negSucc m=>fNat m λm=>k (.negSucc m)
def fL(g:β->(β->α)->α):List β->(List β->α)->α
 |[],k=>k []
 |a::l,k=>g a λa'=>fL g l λl'=>k (a'::l')
def qtz(kd:IntKind)(k:IntKind->α):α:=match kd with
 | .i64=>k .i64
 | .u64=>k .u64
 | .u8=>k .u8
 | .i32=>k .i32
 | .u32=>k .u32
 |x=>k x
def qlL(b:UInt8)(k:UInt8->α):α:=fNat b.toNat λn=>k (UInt8.ofNat n)
def fAV:Nat->AV->(AV->α)->α
 |0,v,k=>k v
 |n+1,v,k=>match v with
  | .int kd m=>qtz kd λkd=>fInt m λm=>k (.int kd m)
  | .bool b=>qcR b λb=>k (.bool b)
  | .str s=>fL qlL s λs=>k (.str s)
  | .agg cs=>fL (fAV n) cs λcs=>k (.agg cs)
  | .tup cs=>fL (fAV n) cs λcs=>k (.tup cs)
  | .nilS=>k .nilS
  | .sl rows=>fL (fL (fAV n)) rows λrows=>k (.sl rows)
  | .em=>k .em
  | .ms a b c=>fNat a λa=>fNat b λb=>fNat c λc=>k (.ms a b c)
  | .nilP=>k .nilP
  | .ptr a b c=>fNat a λa=>fNat b λb=>fNat c λc=>k (.ptr a b c)
  | .cptr cs o=>fL (fAV n) cs λcs=>fNat o λo=>k (.cptr cs o)
  | .fn f a b=>fL (fAV n) a λa=>fL (fAV n) b λb=>k (.fn f a b)
  | .yld a=>fNat a λa=>k (.yld a)
  | .nilF=>k .nilF
  | .nilM=>k .nilM
  | .mp a=>fNat a λa=>k (.mp a)
  | .nilI=>k .nilI
  | .ifc t v=>fAV n v λv=>k (.ifc t v)
  | .junk=>k .junk
  | .lsl r=>k (.lsl r)
  | .lpt c o=>k (.lpt c o)
  | .rsl i r=>k (.rsl i r)
  | .rpt i c o=>k (.rpt i c o)
  | .alt l=>k (.alt l)
  | .wr a b=>k (.wr a b)
def fB(b:ABlk)(k:ABlk->α):α:=match b with
 | .rows d sz rs=>qcR d λd=>fNat sz λsz=>fL (fL (fAV 1)) rs λrs=>k (.rows d sz rs)
 | .froz d sz rs=>qcR d λd=>fNat sz λsz=>fL (fL (fAV 1)) rs λrs=>k (.froz d sz rs)
 | .mp d es=>qcR d λd=>fL (fun(e:AV×AV) k=>k e) es λes=>k (.mp d es)
 | .loop f fr ps a b p s=>fL (fAV 1) fr λfr=>k (.loop f fr ps a b p s)
 | .dead=>k .dead
 | .res=>k .res
 | .reg=>k .reg
 | .spl=>k .spl
 | .bld T e s=>k (.bld T e s)
def fH(H:AH)(k:AH->α):α:=fL fB H k
theorem qcl{g:β->(β->α)->α}(hg:∀b k,g b k=k b):∀(l:List β) (k:List β->α),fL g l k=k l
 |[],_=>rfl
 |a::l,k=>by rw[fL,hg,qcl hg l]
theorem qej(b:Bool)(k:Bool->α):qcR b k=k b:=by cases b<;>rfl
theorem zg(b:Nat)(k:Nat->α):fNat b k=k b:=by cases b<;>rfl
theorem qr1(b:Int)(k:Int->α):fInt b k=k b:=by cases b<;>simp only[fInt,zg]
theorem qpF(b:IntKind)(k:IntKind->α):qtz b k=k b:=by cases b<;>rfl
theorem qjR(b:UInt8)(k:UInt8->α):qlL b k=k b:=by simp[qlL,zg]
theorem qlM:∀(n:Nat) (v:AV) (k:AV->α),fAV n v k=k v
 |0,_,_=>rfl
 |n+1,v,k=>by
  have e1:∀(l:List AV) (k:List AV->α),fL (fAV n) l k=k l:=qcl (qlM n);have e2:∀(l:List (List AV)) (k:List (List AV)->α),fL (fL (fAV n)) l k=k l:=qcl e1;cases v<;>simp only[fAV,qpF,qr1,qej,zg,e1,e2,qcl qjR,qlM n]
theorem qBb(b:ABlk)(k:ABlk->α):fB b k=k b:=by
 have e1:∀(l:List AV) (k:List AV->α),fL (fAV 1) l k=k l:=qcl (qlM 1);have e2:∀(l:List (List AV)) (k:List (List AV)->α),fL (fL (fAV 1)) l k=k l:=qcl e1;cases b<;>simp only[fB,qej,zg,e1,e2,qcl (g:=fun(e:AV×AV) (k:AV×AV->α)=>k e) (λ_ _=>rfl)]
theorem qoh(H:AH)(k:AH->α):fH H k=k H:=qcl qBb H k
def fFr(fr:List AV)(k:List AV->α):α:=fL (λv k=>match v with| .junk=>k .junk|v=>k v) fr k
theorem qei(fr:List AV)(k:List AV->α):fFr fr k=k fr:=qcl (λv k=>by cases v<;>rfl) fr k
def qA1(c a b:AV)(H:AH):Option (AV×AH):=
 match c with
 | .bool t=>some (if t then a else b,H)
 |_=>none
def qyZ(cfg:Cfg)(nid:Option Nat)(t:TypeId)(H:AH):Option (AV×AH):=
 match cfg.ty t with
 |some ti=>
  if xE ti.zero then
   match aNew nid H (qbM cfg t ti.zero)with
   |some (k,H')=>some (.ptr k 0 0,H')
   |none=>none
  else none
 |none=>none
def xBox(cfg:Cfg)(t:TypeId)(nid:Option Nat)(a:AV)(H:AH):Option (AV×AH):=
 match a.cells with
 |some cs=>
  match aNew nid H (qen cfg t cs)with
  |some (k,H')=>some (.ptr k 0 0,H')
  |none=>none
 |none=>none
def qyY(cfg:Cfg)(t:TypeId)(parts:List (Nat×AV))(H:AH):Option (AV×AH):=
 match cfg.ty t with
 |some ti=>
  if xE ti.zero then
   match ti.d with
   | .struct fs=>
    match qaV cfg fs with
    |some ps=>(qcX (λi=>ps[i]?) ti.zero parts).map λcs=>(.agg (cfg.fga t cs),H)
    |none=>none
   | .array _ e=>
    match cfg.sz e with
    |some n=>(qcX (λi=>some (i*n,n)) ti.zero parts).map λcs=>(.agg cs,H)
    |none=>none
   |_=>none
  else none
 |none=>none
def qiB(cfg:Cfg)(nid:Option Nat)(t:TypeId)(len:Nat)(parts:List (Nat×AV))(H:AH):Option (AV×AH):=
 match cfg.td t with
 |some (.slice e)=>
  match cfg.ty e with
  |some ei=>
   if zY ei&&qBv (len*ei.sz) 16777216 then
    match qcq ei.sz (qBI len ei.zero) parts with
    |some rows=>
     match aNew nid H (.rows (qV 0 rows) ei.sz rows)with
     |some (k,H')=>some (.ms k 0 len,H')
     |none=>none
    |none=>none
   else none
  |none=>none
 |_=>none
def qA2(cfg:Cfg)(t:TypeId)(a:AV)(H:AH):Option (AV×AH):=
 match cfg.ty t with
 |some ti=>(qar ti.d.agg ti.sz H a).map λv=>(v,H)
 |none=>none
def qyW(cfg:Cfg)(t:TypeId)(a v:AV)(H:AH):Option (AV×AH):=
 match cfg.sz t with
 |some n=>(qae n H a v).map λH'=>(.junk,H')
 |none=>none
def xNil(a:AV)(H:AH):Option (AV×AH):=
 match a with
 | .ptr id r off=>some (.ptr id r off,H)
 | .cptr cs off=>some (.cptr cs off,H)
 | .fn (.func f) a b=>some (.fn (.func f) a b,H)
 | .mp id=>some (.mp id,H)
 | .yld id=>some (.yld id,H)
 |_=>none
def qww(t:AV)(i:Nat)(H:AH):Option (AV×AH):=
 match t with
 | .tup vs=>(vs[i]?).map λv=>(v,H)
 |_=>none
def xOp(cfg:Cfg)(nid:Option Nat)(o:Op)(ty:TypeId)(x:Operand->AV)(H:AH):Option (AV×AH):=
 match o with
 | .move a| .assign a=>some (x a,H)
 | .pick c a b=>qA1 (x c) (x a) (x b) H
 | .alloc t=>qyZ cfg nid t H
 | .box t a=>xBox cfg t nid (x a) H
 | .build t parts=>qyY cfg t (parts.toList.map λp=>(p.1,x p.2)) H
 | .buildSlice t len parts=>qiB cfg nid t len (parts.toList.map λp=>(p.1,x p.2)) H
 | .load t a=>qA2 cfg t (x a) H
 | .store t a v=>qyW cfg t (x a) (x v) H
 | .nilCheck a=>xNil (x a) H
 | .binOp op t a b _=>(aBin cfg (litN a b) op t (x a) (x b)).map λv=>(v,H)
 | .unOp op _ a=>(aUn op (x a)).map λv=>(v,H)
 | .convert s d a=>zP cfg nid s d (x a) H
 | .makeFunc f first caps=>some (.fn f (first.toList.map x) (caps.toList.map x),H)
 | .makeSlice t l c=>qbu cfg nid t (x l) (x c) H
 | .slice t a lo hi mx=>(qcp cfg t H (x a) (lo.map x) (hi.map x) (mx.map x)).map λv=>(v,H)
 | .fieldAddr t a f=>(qbo cfg t (x a) f).map λv=>(v,H)
 | .field t a f=>(qfU cfg t (x a) f).map λv=>(v,H)
 | .indexAddr t a i=>(y7 cfg t H (x a).unwr (x i)).map λv=>(v,H)
 | .index t a i=>(qfT cfg t (x a) (x i)).map λv=>(v,H)
 | .extract t i=>qww (x t) i H
 |o=>evOp cfg nid o ty x H
theorem qug(cfg:Cfg)(nid:Option Nat)(o:Op)(ty:TypeId)(x:Operand->AV)(H:AH):xOp cfg nid o ty x H=evOp cfg nid o ty x H:=by cases o<;>rfl
def qyX(cfg:Cfg)(cf:Orac)(nid:Option Nat)(f:AV)(args:List AV)(H:AH):Option (AV×AH):=(zu f args).bind λt=>xH cfg cf nid t.1 t.2 H
def qA3(cfg:Cfg)(cf:Orac)(nid:Option Nat)(o:Op)(c:Call)(ty:TypeId)(x:Operand->AV)(H:AH):Option (AV×AH):=
 match c.callee with
 | .value f=>qyX cfg cf nid (x f) (c.args.toList.map x) H
 |_=>evOp cfg nid o ty x H
def quf(cfg:Cfg)(cf:Orac)(nid:Option Nat)(o:Op)(ty:TypeId)(x:Operand->AV)(H:AH):Option (AV×AH):=
 match o with
 | .call c=>qA3 cfg cf nid (.call c) c ty x H
 |o=>xOp cfg nid o ty x H
def qn0(cfg:Cfg)(cf:Orac)(frz:Bool)(nid:Option Nat)(o:Oper)(x:Operand->AV)(H:AH):Option (AV×AH):=
 match frz with
 |false=>quf cfg cf nid o.op o.type x H
 |true=>vI cfg cf true nid o x H
theorem qon(cfg:Cfg)(cf:Orac)(frz:Bool)(nid:Option Nat)(o:Oper)(x:Operand->AV)(H:AH):qn0 cfg cf frz nid o x H=vI cfg cf frz nid o x H:=by
 cases frz with
 |true=>rfl
 |false=>
  obtain⟨dst,op,ty,pos,after,guard⟩:=o;unfold qn0 quf vI;simp only[qBu,if_false,qug];cases op with
  |call c=>
   obtain⟨callee,args,argTypes⟩:=c;cases callee<;>rfl
  |_=>rfl
def qrN(o:Op):Bool:=match o with
 | .alloc _| .box _ _| .buildSlice _ _ _| .store _ _ _| .convert _ _ _| .makeSlice _ _ _| .call _=>false
 |_=>true
def xRes(q:Bool)(o:Option (AV×AH))(k:AV->AH->Option β):Option β:=
 match o with
 |none=>none
 |some r=>fAV 12 r.1 λv=>cond q (k v r.2) (fH r.2 λH=>k v H)
theorem qrB(q:Bool)(o:Option (AV×AH))(k:AV->AH->Option β):xRes q o k=o.bind λr=>k r.1 r.2:=by
 cases o with
 |none=>rfl
 |some r=>cases q<;>simp[xRes,qlM,qoh]
def xOps(cfg:Cfg)(cf:Orac)(f rid:Nat)(ops:Array Oper):Nat->List Oper->List AV->AH->Option (List AV×AH)
 |_,[],fr,H=>some (fr,H)
 |k,o::rest,fr,H=>
  match xP ops fr o with
  |none=>none
  |some b=>
   cond b (xRes (qrN o.op&& !cfg.frz f rid k) (qn0 cfg cf (cfg.frz f rid k) none o (opd fr) H) λv H'=>fFr (put fr o.dst v) λfr'=>xOps cfg cf f rid ops (k+1) rest fr' H')
    (fFr (put fr o.dst (.tup [])) λfr'=>xOps cfg cf f rid ops (k+1) rest fr' H)
theorem qrC(cfg:Cfg)(cf:Orac)(f rid:Nat)(ops:Array Oper):∀(l:List Oper) (k:Nat) (fr:List AV) (H:AH),xOps cfg cf f rid ops k l fr H=zU cfg cf f rid ops k l fr H
 |[],_,_,_=>rfl
 |o::l,k,fr,H=>by
  rw[xOps,zU];cases xP ops fr o with
  |none=>rfl
  |some b=>cases b<;>simp[qrB,qon,qei,qrC cfg cf f rid ops l]
def qkc(cfg:Cfg)(cf:Orac)(f rid:Nat)(ops:Array Oper):Nat->Nat->List Oper->List AV->AH->Option (List DR×List AV×AH)
 |_,_,[],fr,H=>some ([],fr,H)
 |k,at_,o::rest,fr,H=>
  match xP ops fr o with
  |none=>none
  |some b=>
   fNat (at_+qc4 cfg o) λat'=>
   cond b (xRes (qrN o.op&& !cfg.frz f rid k) (qn0 cfg cf (cfg.frz f rid k) (some at_) o (opd fr) H) λv H'=>fFr (put fr o.dst v) λfr'=>
     match qkc cfg cf f rid ops (k+1) at' rest fr' H' with
     |none=>none
     |some q=>some (drOf cfg (cfg.frz f rid k) at_ o (opd fr) H v H'::q.1,q.2))
    (fFr (put fr o.dst (.tup [])) λfr'=>
     match qkc cfg cf f rid ops (k+1) at' rest fr' H with
     |none=>none
     |some q=>some (drNo H::q.1,q.2))
theorem qop(cfg:Cfg)(cf:Orac)(f rid:Nat)(ops:Array Oper):∀(l:List Oper) (k at_:Nat) (fr:List AV) (H:AH),qkc cfg cf f rid ops k at_ l fr H=yr cfg cf f rid ops k at_ l fr H
 |[],_,_,_,_=>rfl
 |o::l,k,at_,fr,H=>by
  have em:∀(x:Option (List DR×List AV×AH)) (g:List DR×List AV×AH->List DR×List AV×AH),(match x with|none=>none|some q=>some (g q))=x.map g:=λx g=>by cases x<;>rfl
  rw[qkc,yr];cases xP ops fr o with
  |none=>rfl
  |some b=>cases b<;>simp[qrB,qon,qei,zg,qop cfg cf f rid ops l,em]
def qn1(k:Nat)(ts:Option (List Tmp))(ls:List (Tmp×Nat))(body:Den):Nat->List AV->AH->Option (Ex×List AV×AH)
 |0,_,_=>none
 |n+1,fr,H=>
  match body fr H with
  |none=>none
  |some r=>
   match r.1 with
   | .normal=>fFr (yY k ts ls r.2.1 r.2.2).1 λfr'=>fH (yY k ts ls r.2.1 r.2.2).2 λH'=>qn1 k ts ls body n fr' H'
   |e=>some (e,r.2)
theorem qoo(k:Nat)(ts:Option (List Tmp))(ls:List (Tmp×Nat))(body:Den):∀(n:Nat) (fr:List AV) (H:AH),qn1 k ts ls body n fr H=yR k ts ls body n (fr,H)
 |0,_,_=>rfl
 |n+1,fr,H=>by
  rw[qn1,yR];show _=(body fr H).bind _;cases body fr H with
  |none=>rfl
  |some r=>
   simp only[qBs];cases hr:r.1<;>simp[qei,qoh,qoo k ts ls body n]
def xC(cfg:Cfg)(cf:Orac)(m:Nat)(f:Nat)(rd:Option Nat)(bs:Nat):Code->List AV->AH->Option (Ex×List AV×AH)
 | .skip,fr,H=>some (.normal,fr,H)
 | .label _,fr,H=>some (.normal,fr,H)
 | .region id ops draw,fr,H=>
  if draw then
   if qa4 ops then
    match qkc cfg cf f id ops 0 H.length ops.toList fr (H++qBI (places cfg ops.toList) .res)with
    |none=>none
    |some q=>if qdM (ancs [] ops.toList) (H++qBI (places cfg ops.toList) .res) q.1 then some (.normal,q.2)else none
   else none
  else match xOps cfg cf f id ops 0 ops.toList fr H with
   |none=>none
   |some q=>some (.normal,q)
 | .seq a b,fr,H=>
  match xC cfg cf m f rd bs a fr H with
  |none=>none
  |some r=>
   match r.1 with
   | .normal=>fFr (vW (cfg.cut f (qk b)) r.2.1) λfr'=>xC cfg cf m f rd bs b fr' r.2.2
   |e=>some (e,r.2)
 | .cond c a b,fr,H=>
  match opd fr c with
  | .bool t=>if t then xC cfg cf m f rd bs a fr H else xC cfg cf m f rd bs b fr H
  |_=>none
 | .block id a,fr,H=>
  match xC cfg cf m f rd bs a fr H with
  |none=>none
  |some r=>
   match r.1 with
   | .exit id'=>some (if qBh id' id then(.normal,r.2)else r)
   |_=>some r
 | .loop a,fr,H=>
  match fFr (yY bs (cfg.keepIn f (qk a)) (cfg.lift f (qk a)) fr H).1 λfr'=>fH (yY bs (cfg.keepIn f (qk a)) (cfg.lift f (qk a)) fr H).2 λH'=>qn1 bs (cfg.keepIn f (qk a)) (cfg.lift f (qk a)) (xC cfg cf m f rd bs a) m fr' H' with
  |none=>none
  |some r=>fFr (vW (cfg.keepOut f (qk a)) r.2.1) λfr'=>some (r.1,fr',r.2.2)
 | .scope a,fr,H=>
  match xC cfg cf m f rd bs a fr H with
  |none=>none
  |some r=>
   match r.1 with
   | .goto _=>none
   |_=>some r
 | .exit id,fr,H=>some (.exit id,fr,H)
 | .goto _,_,_=>none
 | .ret,fr,H=>some (.ret,fr,H)
 | .rangeFunc g ps assign body,fr,H=>fFr (vT (cfg.lift f (qk body)) fr H).1 λfr'=>fH (vT (cfg.lift f (qk body)) fr H).2 λH'=>qaH cfg cf f rd bs g ps assign body fr' H'
 | .refuse _,_,_=>none
theorem qA4(cfg:Cfg){cf cf':Orac}(hcf:∀t a H r,cf t a H=some r->cf' t a H=some r)(m:Nat)(f:Nat)(rd:Option Nat)(bs:Nat):∀(cd:Code) (fr:List AV) (H:AH) (r),xC cfg cf m f rd bs cd fr H=some r->evC cfg cf' f rd bs cd fr H=some r:=by
 have hev:Ev (λ_=>cf') cf:=λt a H r h=>⟨0,λ_ _=>hcf t a H r h⟩
 have key:∀{γ:Type} {G:Orac->Option γ},EvG (λ_=>cf') cf G->∀r,G cf=some r->G cf'=some r:=λh r hr=>by
  obtain⟨n,hn⟩:=h r hr;exact hn n (qBp _)
 intro cd
 induction cd with
 |skip=>intro fr H r h;exact h
 |label l=>intro fr H r h;exact h
 |exit id=>intro fr H r h;exact h
 |ret=>intro fr H r h;exact h
 |goto l=>intro fr H r h;cases h
 |refuse s=>intro fr H r h;cases h
 |region id ops draw=>
  intro fr H r h;simp only[xC,evC]at h⊢;cases draw with
  |true=>
   simp only[if_true]at h⊢;split at h
   ·rename_i hd;rw[qB5 hd];rw[qop]at h;cases hq:yr cfg cf f id ops 0 H.length ops.toList fr (H++qBI (places cfg ops.toList) .res)with
    |none=>rw[hq]at h;cases h
    |some q=>
     rw[hq]at h;have h2:=key (G:=λo=>yr cfg o f id ops 0 H.length ops.toList fr (H++qBI (places cfg ops.toList) .res)) (qeM hev cfg f id ops _ _ _ _ _) q hq;rw[h2];exact h
   ·cases h
  |false=>
   simp only[qBu,if_false]at h⊢;rw[qrC]at h;refine key (G:=λq=>(zU cfg q f id ops 0 ops.toList fr H).map λq=>(Ex.normal,q)) ((qgx hev cfg f id ops _ _ _ _).map _) r ?_;rw[←h];cases zU cfg cf f id ops 0 ops.toList fr H<;>rfl
 |seq x y ihx ihy=>
  intro fr H r h;simp only[xC,evC]at h⊢;cases hco:qdb x with
  |some p=>
   obtain⟨rfl,hcc⟩:=qjn hco;have h1:qa4 p.2=false:=by unfold qa4;rw[hcc];rfl
   simp only[xC,if_true,h1,qBu,if_false]at h;cases h
  |none=>?_
  simp only;split at h
  ·cases h
  ·rename_i q hq;rw[ihx _ _ _ hq];simp only[qBs];cases hq1:q.1 with
   |normal=>rw[hq1]at h;rw[qei]at h;exact ihy _ _ _ h
   |exit id=>rw[hq1]at h;exact h
   |goto l=>rw[hq1]at h;exact h
   |ret=>rw[hq1]at h;exact h
 |cond cnd x y ihx ihy=>
  intro fr H r h;simp only[xC,evC]at h⊢;split at h
  ·rename_i t ht;rw[ht];cases t with
   |true=>exact ihx _ _ _ h
   |false=>exact ihy _ _ _ h
  ·cases h
 |block id x ih=>
  intro fr H r h;simp only[xC,evC]at h⊢;split at h
  ·cases h
  ·rename_i q hq;rw[ih _ _ _ hq];exact h
 |loop x ih=>
  intro fr H r h;simp only[xC,evC]at h⊢;split at h
  ·cases h
  ·rename_i q hq;rw[qei,qoh,qoo]at hq;rw[qei]at h;have hl:LOOP bs (cfg.keepIn f (qk x)) (cfg.lift f (qk x)) (evC cfg cf' f rd bs x) (yY bs (cfg.keepIn f (qk x)) (cfg.lift f (qk x)) fr H)=some q:=by
    refine qfW (n:=m) ?_;have up:∀(n:Nat) (p:List AV×AH) (r),yR bs (cfg.keepIn f (qk x)) (cfg.lift f (qk x)) (xC cfg cf m f rd bs x) n p=some r->yR bs (cfg.keepIn f (qk x)) (cfg.lift f (qk x)) (evC cfg cf' f rd bs x) n p=some r:=by
     intro n
     induction n with
     |zero=>intro p r h;cases h
     |succ n ihn=>
      intro p r h;rw[yR]at h⊢;obtain⟨q,h1,h2⟩:=qBl.1 h;rw[ih _ _ _ h1];simp only[qBs];cases hq:q.1 with
      |normal=>rw[hq]at h2;exact ihn _ _ h2
      |exit id=>rw[hq]at h2;exact h2
      |goto l=>rw[hq]at h2;exact h2
      |ret=>rw[hq]at h2;exact h2
    exact up _ _ _ hq
   rw[hl];exact h
 |scope x ih=>
  intro fr H r h;simp only[xC,evC]at h⊢;split at h
  ·cases h
  ·rename_i q hq;rw[ih _ _ _ hq];exact h
 |rangeFunc g ps assign body=>
  intro fr H r h;simp only[xC,evC,qei,qoh]at h⊢;unfold qaH at h⊢;split at h
  ·rename_i hl;rw[qB5 hl];split at h
   ·split at h
    ·cases h
    ·rename_i hx;rw[qB6 hx];obtain⟨q,hq,h⟩:=qBl.1 h;rw[hcf _ _ _ _ hq];exact h
   ·cases h
  ·cases h
end
noncomputable section
variable {α β : Type}
def gL(g:β->(β->α)->α)(l:List β):(List β->α)->α:=
 List.rec (motive:=λ_=>(List β->α)->α) (λk=>k []) (λa _ ih k=>g a λa'=>ih λl'=>k (a'::l')) l
def gS(l:List β):(List β->α)->α:=
 List.rec (motive:=λ_=>(List β->α)->α) (λk=>k []) (λa _ ih k=>ih λl'=>k (a::l')) l
theorem qam{g:β->(β->α)->α}(hg:∀b k,g b k=k b):∀(l:List β) (k:List β->α),gL g l k=k l
 |[],_=>rfl
 |a::l,k=>by
  have:gL g (a::l) k=g a λa'=>gL g l λl'=>k (a'::l'):=rfl
  rw[this,hg,qam hg l]
theorem zG:∀(l:List β) (k:List β->α),gS l k=k l
 |[],_=>rfl
 |a::l,k=>by
  have:gS (a::l) k=gS l λl'=>k (a::l'):=rfl
  rw[this,zG l]
def gA1(v:AV)(k:AV->α):α:=match v with
 | .int kd m=>qtz kd λkd=>fInt m λm=>k (.int kd m)
 | .bool b=>qcR b λb=>k (.bool b)
 | .str s=>fL qlL s λs=>k (.str s)
 | .ms a b c=>fNat a λa=>fNat b λb=>fNat c λc=>k (.ms a b c)
 | .ptr a b c=>fNat a λa=>fNat b λb=>fNat c λc=>k (.ptr a b c)
 |v=>k v
theorem qpA(v:AV)(k:AV->α):gA1 v k=k v:=by
 cases v<;>simp only[gA1,qpF,qr1,qej,zg,qcl qjR]
def gA2(v:AV)(k:AV->α):α:=match v with
 | .agg cs=>gL gA1 cs λcs=>k (.agg cs)
 | .sl rows=>gL (gL gA1) rows λrows=>k (.sl rows)
 | .cptr cs o=>gL gA1 cs λcs=>fNat o λo=>k (.cptr cs o)
 | .fn f a b=>gL gA1 a λa=>gL gA1 b λb=>k (.fn f a b)
 |v=>gA1 v k
theorem qvB(v:AV)(k:AV->α):gA2 v k=k v:=by
 have e1:∀(l:List AV) (k:List AV->α),gL gA1 l k=k l:=qam qpA;cases v<;>simp only[gA2,qpA,e1,zg,qam e1]
def gA(v:AV)(k:AV->α):α:=match v with
 | .tup cs=>gL gA2 cs λcs=>k (.tup cs)
 | .ifc t v=>gA2 v λv=>k (.ifc t v)
 |v=>gA2 v k
theorem qcP(v:AV)(k:AV->α):gA v k=k v:=by
 cases v<;>simp only[gA,qvB,qam qvB]
def gW(v:AV)(k:AV->α):α:=match v with
 | .int a b=>k (.int a b)
 | .bool a=>k (.bool a)
 | .str a=>k (.str a)
 | .agg a=>k (.agg a)
 | .tup a=>k (.tup a)
 | .nilS=>k .nilS
 | .sl a=>k (.sl a)
 | .em=>k .em
 | .ms a b c=>k (.ms a b c)
 | .nilP=>k .nilP
 | .ptr a b c=>k (.ptr a b c)
 | .cptr a b=>k (.cptr a b)
 | .fn a b c=>k (.fn a b c)
 | .yld a=>k (.yld a)
 | .nilF=>k .nilF
 | .nilM=>k .nilM
 | .mp a=>k (.mp a)
 | .nilI=>k .nilI
 | .ifc a b=>k (.ifc a b)
 | .junk=>k .junk
 | .lsl r=>k (.lsl r)
 | .lpt c o=>k (.lpt c o)
 | .rsl i r=>k (.rsl i r)
 | .rpt i c o=>k (.rpt i c o)
 | .alt l=>k (.alt l)
 | .wr a b=>k (.wr a b)
theorem qiu(v:AV)(k:AV->α):gW v k=k v:=by cases v<;>rfl
def gB(b:ABlk)(k:ABlk->α):α:=match b with
 | .rows d sz rs=>qcR d λd=>fNat sz λsz=>gL (gL gA1) rs λrs=>k (.rows d sz rs)
 | .froz d sz rs=>qcR d λd=>fNat sz λsz=>gL (gL gA1) rs λrs=>k (.froz d sz rs)
 | .mp d es=>qcR d λd=>gS es λes=>k (.mp d es)
 | .loop f fr ps a b p s=>gL gA1 fr λfr=>k (.loop f fr ps a b p s)
 | .dead=>k .dead
 | .res=>k .res
 | .reg=>k .reg
 | .spl=>k .spl
 | .bld T e s=>fL qlL s λs=>k (.bld T e s)
theorem qtt(b:ABlk)(k:ABlk->α):gB b k=k b:=by
 have e1:∀(l:List AV) (k:List AV->α),gL gA1 l k=k l:=qam qpA;cases b<;>simp only[gB,qej,zg,e1,qam e1,zG,qcl qjR]
def gP(p:Nat×AV)(k:Nat×AV->α):α:=gA p.2 λv=>k (p.1,v)
theorem qtr(p:Nat×AV)(k:Nat×AV->α):gP p k=k p:=by unfold gP;rw[qcP]
def gH(H:AH)(k:AH->α):α:=gL gB H k
theorem qgt(H:AH)(k:AH->α):gH H k=k H:=qam qtt H k
abbrev Ov:=List (Nat×AV)
def den(n:Nat)(ov:Ov):List AV:=ov.foldr (λp fr=>fr.set p.1 p.2) (qBI n .junk)
def xU(t:Nat)(ov:Ov):AV:=List.rec (motive:=λ_=>AV) .junk (λp _ ih=>cond (qBh p.1 t) p.2 ih) ov
theorem qhp(t:Nat):xU t []= .junk:=rfl
theorem qb8(t:Nat)(p:Nat×AV)(ov:Ov):xU t (p::ov)=cond (qBh p.1 t) p.2 (xU t ov):=rfl
def OvOk(n:Nat)(ov:Ov):Prop:=∀p∈ov,p.1<n
theorem qfN(n:Nat)(ov:Ov):(den n ov).length=n:=by
 induction ov with
 |nil=>simp[den]
 |cons p l ih=>simp only[den,List.foldr_cons,List.length_set];exact ih
theorem qfO{n:Nat}{ov:Ov}(h:OvOk n ov)(t:Nat):(den n ov)[t]? =if t<n then some (xU t ov)else none:=by
 induction ov with
 |nil=>
  simp only[den,List.foldr_nil,qhp,List.getElem?_replicate]
 |cons p l ih=>
  have hl:OvOk n l:=λq hq=>h q (List.mem_cons_of_mem _ hq)
  have hp:p.1<n:=h p (List.mem_cons_self ..);have:(den n (p::l))[t]? =((den n l).set p.1 p.2)[t]? :=rfl;rw[this,qBC,ih hl,qfN,qb8]
  by_cases e:p.1=t
  ·subst e;simp[hp]
  ·have:qBh p.1 t=false:=by rw[←Bool.not_eq_true];intro h';exact e (qBo h')
   rw[qB6 e,this];rfl
theorem qhq{n:Nat}{ov:Ov}(h:OvOk n ov){t:Nat}(ht:¬t<n):xU t ov= .junk:=by
 induction ov with
 |nil=>rfl
 |cons p l ih=>
  have hp:p.1<n:=h p (List.mem_cons_self ..);have:qBh p.1 t=false:=by rw[←Bool.not_eq_true];intro h';have:=qBo h';omega
  rw[qb8,this];exact ih λq hq=>h q (List.mem_cons_of_mem _ hq)
theorem qmD{n:Nat}{ov:Ov}(h:OvOk n ov){fr:List AV}(hl:fr.length=n)(hg:∀t,t<n->fr[t]? =some (xU t ov)):den n ov=fr:=by
 apply List.ext_getElem?;intro t;rw[qfO h];split
 ·rename_i ht;exact(hg t ht).symm
 ·rename_i ht;exact(List.getElem?_eq_none (by omega)).symm
def opdO(ov:Ov):Operand->AV
 | .tmp t=>xU t ov
 | .const v=>ofValue v
 | .global _=>.junk
 | .func f=>.fn (.func f) [] []
theorem qfD{n:Nat}{ov:Ov}(h:OvOk n ov):opd (den n ov)=opdO ov:=by
 funext o
 cases o with
 |tmp t=>
  show(den n ov).getD t .junk=xU t ov;rw[List.getD_eq_getElem?_getD,qfO h];split
  ·rfl
  ·rename_i ht;exact(qhq h ht).symm
 |_=>rfl
def putO(n:Nat)(ov:Ov)(dst:Option Tmp)(v:AV):Ov:=
 match dst with
 |some d=>cond (Nat.blt d n) ((d,v)::ov) ov
 |none=>ov
theorem qil{n:Nat}{ov:Ov}(h:OvOk n ov)(dst:Option Tmp)(v:AV):OvOk n (putO n ov dst v):=by
 cases dst with
 |none=>exact h
 |some d=>
  simp only[putO];cases hd:Nat.blt d n with
  |false=>exact h
  |true=>
   intro p hp;rw[cond_true]at hp;rcases qBG.1 hp with rfl|hp
   ·simpa [qBY]using hd
   ·exact h p hp
theorem qgc{n:Nat}{ov:Ov}(dst:Option Tmp)(v:AV):den n (putO n ov dst v)=put (den n ov) dst v:=by
 cases dst with
 |none=>rfl
 |some d=>
  simp only[putO,put];cases hd:Nat.blt d n with
  |true=>rfl
  |false=>
   have hd:¬d<n:=by rw[←Bool.not_eq_true,qBY]at hd;exact hd
   show den n ov=_;rw[List.set_eq_of_length_le (by rw[qfN];exact Nat.le_of_not_lt hd)]
def qdG(ops:Array Oper)(ov:Ov)(o:Oper):Option Bool:=
 match o.guard with
 |none=>some true
 |some (j,want)=>
  match(ops[j]?).bind (·.dst)with
  |some d=>
   match xU d ov with
   | .bool b=>some (b==want)
   | .tup []=>some false
   |_=>none
  |none=>none
theorem qkA{n:Nat}{ov:Ov}(h:OvOk n ov)(ops:Array Oper)(o:Oper):xP ops (den n ov) o=qdG ops ov o:=by
 unfold xP qdG;cases o.guard with
 |none=>rfl
 |some p=>
  obtain⟨j,want⟩:=p;simp only;cases(ops[j]?).bind (·.dst)with
  |none=>rfl
  |some d=>
   simp only;rw[qfO h]
   by_cases hd:d<n
   ·rw[qB5 hd];cases xU d ov<;>try rfl
    rename_i vs;cases vs<;>rfl
   ·rw[qB6 hd,qhq h hd]
def qol(n:Nat)(H:AH)(p v:AV)(k:AH->Option β):Option β:=
 match p with
 | .ptr id r off=>
  match v.cells with
  |some cs=>
   match H[id]? with
   |some (.rows d sz rs)=>
    match rs[r]? with
    |some row=>if cs.length==n&&qBv (off+n) row.length then
      gS (row.take off++cs++row.drop (off+n)) λrow'=>gS (rs.set r row') λrs'=>qcR (d&&qF 0 cs) λd'=>gS (H.set id (.rows d' sz rs')) k
     else none
    |none=>none
   |_=>none
  |none=>none
 | .rpt id cs o=>(qae n H (.rpt id cs o) v).bind k
 |_=>none
theorem qt9(n:Nat)(H:AH)(p v:AV)(k:AH->Option β):qol n H p v k=(qae n H p v).bind k:=by
 unfold qol qae;cases p with
 |ptr id r off=>
  simp only;cases hv:v.cells with
  |none=>simp
  |some cs=>
   simp only;cases hH:H[id]? with
   |none=>simp
   |some b=>
    cases b<;>simp only[Option.bind_none]
    rename_i d sz rs;cases hr:rs[r]? with
    |none=>simp
    |some row=>
     simp only;split<;>simp[zG,qej]
 |rpt id cs o=>rfl
 |_=>simp
def yNew(nid:Option Nat)(H:AH)(b:ABlk)(k:Nat->AH->Option β):Option β:=
 match nid with
 |none=>fNat H.length λi=>gS (H++[b]) λH'=>k i H'
 |some i=>
  match H[i]? with
  |some .res=>gS (H.set i b) λH'=>k i H'
  |_=>none
theorem qrA(nid:Option Nat)(H:AH)(b:ABlk)(k:Nat->AH->Option β):yNew nid H b k=(aNew nid H b).bind λr=>k r.1 r.2:=by
 cases nid with
 |none=>simp[yNew,aNew,zg,zG]
 |some i=>
  simp only[yNew,aNew];cases H[i]? with
  |none=>rfl
  |some b=>cases b<;>simp[zG]
def que(cfg:Cfg)(nid:Option Nat)(t:TypeId)(H:AH)(k:AV->AH->Option β):Option β:=
 match cfg.ty t with
 |some ti=>if xE ti.zero then gB (qbM cfg t ti.zero) λb=>yNew nid H b λi H'=>k (.ptr i 0 0) H' else none
 |none=>none
def yBox(cfg:Cfg)(t:TypeId)(nid:Option Nat)(a:AV)(H:AH)(k:AV->AH->Option β):Option β:=
 match a.cells with
 |some cs=>gS cs λcs=>gB (qen cfg t cs) λb=>yNew nid H b λi H'=>k (.ptr i 0 0) H'
 |none=>none
def yOp(cfg:Cfg)(nid:Option Nat)(o:Op)(ty:TypeId)(x:Operand->AV)(H:AH)(k:AV->AH->Option β):Option β:=
 match o with
 | .move a| .assign a=>gW (x a) λv=>k v H
 | .alloc t=>que cfg nid t H k
 | .box t a=>yBox cfg t nid (x a) H k
 | .store t a v=>
  match cfg.sz t with
  |some n=>qol n H (x a) (x v) λH'=>k .junk H'
  |none=>none
 | .buildSlice t len parts=>(match qiB cfg nid t len (parts.toList.map λp=>(p.1,x p.2)) H with|some r=>gA r.1 λv=>gH r.2 λH'=>k v H'|none=>none)
 | .convert s d a=>(match zP cfg nid s d (x a) H with|some r=>gA r.1 λv=>gH r.2 λH'=>k v H'|none=>none)
 | .makeSlice t l c=>(match qbu cfg nid t (x l) (x c) H with|some r=>gA r.1 λv=>gH r.2 λH'=>k v H'|none=>none)
 | .call c=>(match evOp cfg nid (.call c) ty x H with|some r=>gA r.1 λv=>gH r.2 λH'=>k v H'|none=>none)
 |o=>(match xOp cfg nid o ty x H with|some r=>gA r.1 λv=>k v r.2|none=>none)
theorem qyV(cfg:Cfg)(nid:Option Nat)(o:Op)(ty:TypeId)(x:Operand->AV)(H:AH)(k:AV->AH->Option β):yOp cfg nid o ty x H k=(evOp cfg nid o ty x H).bind λr=>k r.1 r.2:=by
 have em:∀(q:Option (AV×AH)),(match q with|some r=>gA r.1 λv=>gH r.2 λH'=>k v H'|none=>none)=q.bind λr=>k r.1 r.2:=λq=>by cases q<;>simp[qcP,qgt]
 have em':∀(q:Option (AV×AH)),(match q with|some r=>gA r.1 λv=>k v r.2|none=>none)=q.bind λr=>k r.1 r.2:=λq=>by cases q<;>simp[qcP]
 cases o with
 |move a=>simp[yOp,evOp,qiu]
 |assign a=>simp[yOp,evOp,qiu]
 |alloc t=>
  simp only[yOp,evOp,que];cases cfg.ty t with
  |none=>rfl
  |some ti=>
   simp only;split
   ·simp only[qtt,qrA];cases aNew nid H (qbM cfg t ti.zero)<;>rfl
   ·rfl
 |box t a=>
  simp only[yOp,evOp,yBox];cases(x a).cells with
  |none=>rfl
  |some cs=>
   simp only[zG,qtt,qrA];cases aNew nid H (qen cfg t cs)<;>rfl
 |store t a v=>
  simp only[yOp,evOp];cases cfg.sz t with
  |none=>rfl
  |some n=>
   simp only[qt9];cases qae n H (x a) (x v)<;>rfl
 |buildSlice t len parts=>simp only[yOp];rw[em];rfl
 |convert s d a=>simp only[yOp];rw[em];rfl
 |makeSlice t l c=>simp only[yOp];rw[em];rfl
 |call c=>simp only[yOp];rw[em]
 |_=>simp only[yOp];rw[em',qug]
structure Fact where
 frz:Bool
 f:Nat
 args:List AV
 v:AV
def Fact.Ok(cfg:Cfg)(e:Fact):Prop:=(if e.frz then EVf (EV cfg) e.f e.args else EVs (EV cfg) e.f e.args)=some e.v
def xQ(cfg:Cfg):List Fact->Prop
 |[]=>True
 |e::l=>e.Ok cfg∧xQ cfg l
theorem xQ.nil{cfg:Cfg}:xQ cfg []:=trivial
theorem xQ.consF{cfg:Cfg}{f:Nat}{args:List AV}{v:AV}{l:List Fact}(h:EVf (EV cfg) f args=some v)(t:xQ cfg l):xQ cfg (⟨true,f,args,v⟩::l):=⟨h,t⟩
def qeh(frz:Bool)(f:Nat)(args:List AV)(fs:List Fact):Option AV:=
 List.rec (motive:=λ_=>Option AV) none (λe _ ih=>cond (qBh e.f f&&(e.frz==frz&&zR e.args args)) (some e.v) ih) fs
theorem qff{cfg:Cfg}{frz:Bool}{f:Nat}{args:List AV}{v:AV}:∀{fs:List Fact},xQ cfg fs->qeh frz f args fs=some v->(if frz then EVf (EV cfg) f args else EVs (EV cfg) f args)=some v
 |[],_,h=>by cases h
 |e::l,hok,h=>by
  have hd:qeh frz f args (e::l)=cond (qBh e.f f&&(e.frz==frz&&zR e.args args)) (some e.v) (qeh frz f args l):=rfl;rw[hd]at h;cases hc:(qBh e.f f&&(e.frz==frz&&zR e.args args))with
  |true=>
   rw[hc]at h;simp only[qBi,beq_iff_eq]at hc;cases h;have:=hok.1;unfold Fact.Ok at this;rw[←qBo hc.1,←hc.2.1,←zJ hc.2.2];exact this
  |false=>
   rw[hc]at h;exact qff hok.2 h
def qkb(cfg:Cfg)(cf:Orac)(nid:Option Nat)(t:Tgt)(args:List AV)(H:AH)(k:AV->AH->Option β):Option β:=
 match xH cfg cf nid t args H with
 |some r=>gA r.1 λv=>gH r.2 λH'=>k v H'
 |none=>none
def quc(_cfg:Cfg)(cf:Orac)(fs:List Fact)(f:Nat)(al:List AV)(k:AV->Option β):Option β:=
 cond (qF 0 al)
  (match qeh false f al fs with
  |some v=>cond v.scalar (k v) none
  |none=>(match cf (.f f) al []with|some r=>gA r.1 λv=>cond v.scalar (k v) none|none=>none)) none
def qud(_cfg:Cfg)(cf:Orac)(fs:List Fact)(f:Nat)(al:List AV)(k:AV->Option β):Option β:=
 cond (qF 0 al)
  (match qeh true f al fs with
  |some v=>cond (v.refsLt 0) (k v) none
  |none=>(match cf (.f f) al []with|some r=>gA (r.1.frz r.1.msIds r.2).fg λv=>cond (v.refsLt 0) (k v) none|none=>none)) none
def qom(cfg:Cfg)(cf:Orac)(fs:List Fact)(nid:Option Nat)(t:Tgt)(args:List AV)(H:AH)(k:AV->AH->Option β):Option β:=
 match t with
 | .y id=>qkb cfg cf nid (.y id) args H k
 | .f f=>
  match cfg.mode f with
  | .scal=>gL gA (args.map λa=>(a.snap H).fg) λal=>quc cfg cf fs f al λv=>k v H
  | .pfrz=>gL gA (args.map AV.fg) λal=>qud cfg cf fs f al λv=>k v H
  |_=>qkb cfg cf nid (.f f) args H k
def qub(cfg:Cfg)(cf:Orac)(fs:List Fact)(nid:Option Nat)(f:AV)(args:List AV)(H:AH)(k:AV->AH->Option β):Option β:=
 match zu f args with
 |some t=>qom cfg cf fs nid t.1 t.2 H k
 |none=>none
def Le(cf cf':Orac):Prop:=∀t a H r,cf t a H=some r->cf' t a H=some r
theorem qqg{cfg:Cfg}{cf:Orac}(hcf:Le cf (EV cfg)){fs:List Fact}(hfs:xQ cfg fs){nid:Option Nat}{t:Tgt}{args:List AV}{H:AH}{k:AV->AH->Option β}{r:β}(h:qom cfg cf fs nid t args H k=some r):∃q,xH cfg (EV cfg) nid t args H=some q∧k q.1 q.2=some r:=by
 have hev:Ev (λ_=>EV cfg) cf:=λt a H r h=>⟨0,λ_ _=>hcf t a H r h⟩
 have gen:∀(t:Tgt),qkb cfg cf nid t args H k=some r->∃q,xH cfg (EV cfg) nid t args H=some q∧k q.1 q.2=some r:=by
  intro t h;unfold qkb at h;split at h
  ·rename_i q hq;rw[qcP,qgt]at h;obtain⟨n,hn⟩:=qp0 hev cfg nid t args H q hq;exact⟨q,hn n (qBp _),h⟩
  ·cases h
 cases t with
 |y id=>exact gen _ h
 |f f=>
  simp only[qom]at h;cases hm:cfg.mode f with
  |scal=>
   simp only[hm,qam qcP]at h;unfold quc at h;obtain⟨h1,h⟩:=qm h;simp only[xH,qaw,vJ,hm,h1,if_true];split at h
   ·rename_i v hv;obtain⟨h2,h⟩:=qm h;have:=qff hfs hv;simp only[qBu,if_false]at this;unfold EVs at this;obtain⟨q,hq,rfl⟩:=qBq.1 this;rw[hq];exact⟨(q.1,H),by simp only[qBs,h2,if_true],h⟩
   ·split at h
    ·rename_i q hq;rw[qcP]at h;obtain⟨h2,h⟩:=qm h;rw[hcf _ _ _ _ hq];exact⟨(q.1,H),by simp only[qBs,h2,if_true],h⟩
    ·cases h
  |pfrz=>
   simp only[hm,qam qcP]at h;unfold qud at h;obtain⟨h1,h⟩:=qm h;simp only[xH,qaw,vJ,hm,h1,if_true];split at h
   ·rename_i v hv;obtain⟨h2,h⟩:=qm h;have:=qff hfs hv;simp only[if_true]at this;unfold EVf at this;obtain⟨q,hq,rfl⟩:=qBq.1 this;rw[hq];exact⟨((q.1.frz q.1.msIds q.2).fg,H),by simp only[qBs,h2,if_true],h⟩
   ·split at h
    ·rename_i q hq;rw[qcP]at h;obtain⟨h2,h⟩:=qm h;rw[hcf _ _ _ _ hq];exact⟨((q.1.frz q.1.msIds q.2).fg,H),by simp only[qBs,h2,if_true],h⟩
    ·cases h
  |_=>simp only[hm]at h;exact gen _ h
def qdO(cfg:Cfg)(cf:Orac)(fs:List Fact)(nid:Option Nat)(o:Op)(ty:TypeId)(x:Operand->AV)(H:AH)(k:AV->AH->Option β):Option β:=
 match o with
 | .call c=>
  (match c.callee with
  | .value f=>gL gW (c.args.toList.map x) λargs=>qub cfg cf fs nid (x f) args H k
  |_=>yOp cfg nid (.call c) ty x H k)
 |o=>yOp cfg nid o ty x H k
def qnY(cfg:Cfg)(cf:Orac)(fs:List Fact)(frz:Bool)(nid:Option Nat)(o:Oper)(x:Operand->AV)(H:AH)(k:AV->AH->Option β):Option β:=
 match frz with
 |false=>qdO cfg cf fs nid o.op o.type x H k
 |true=>gS (o.op.operands.toList.flatMap λa=>(x a).msIds) λids=>gH (vm ids H) λH'=>qdO cfg cf fs nid o.op o.type (λa=>(x a).frz ids H) H' k
theorem qiA{cfg:Cfg}{cf:Orac}(hcf:Le cf (EV cfg)){fs:List Fact}(hfs:xQ cfg fs){nid:Option Nat}{o:Oper}{x:Operand->AV}{H:AH}{k:AV->AH->Option β}{r:β}(h:qdO cfg cf fs nid o.op o.type x H k=some r):∃q,vI cfg (EV cfg) false nid o x H=some q∧k q.1 q.2=some r:=by
 obtain⟨dst,op,ty,pos,after,guard⟩:=o;unfold vI;simp only[qBu,if_false]at h⊢;have plain:∀(op:Op),yOp cfg nid op ty x H k=some r->∃q,evOp cfg nid op ty x H=some q∧k q.1 q.2=some r:=by
  intro op h;rw[qyV]at h;exact qBl.1 h
 cases op with
 |call c=>
  obtain⟨callee,args,argTypes⟩:=c;cases callee with
  |value f=>
   simp only[qdO,qam qiu]at h⊢;unfold qub at h;split at h
   ·rename_i t ht;rw[ht];exact qqg hcf hfs h
   ·cases h
  |builtin b=>simp only[qdO]at h⊢;exact plain _ h
  |invoke rv nm=>simp only[qdO]at h⊢;exact plain _ h
 |_=>simp only[qdO]at h⊢;exact plain _ h
theorem qj6{cfg:Cfg}{cf:Orac}(hcf:Le cf (EV cfg)){fs:List Fact}(hfs:xQ cfg fs){frz:Bool}{nid:Option Nat}{o:Oper}{x:Operand->AV}{H:AH}{k:AV->AH->Option β}{r:β}(h:qnY cfg cf fs frz nid o x H k=some r):∃q,vI cfg (EV cfg) frz nid o x H=some q∧k q.1 q.2=some r:=by
 cases frz with
 |false=>exact qiA hcf hfs h
 |true=>
  simp only[qnY,zG,qgt]at h;obtain⟨q,h1,h2⟩:=qiA hcf hfs h;refine⟨q,?_,h2⟩;unfold vI at h1⊢
  simpa using h1
def yOps(cfg:Cfg)(cf:Orac)(fs:List Fact)(f rid:Nat)(ops:Array Oper)(n:Nat):Nat->List Oper->Ov->AH->(Ov->AH->Option β)->Option β
 |_,[],ov,H,K=>K ov H
 |i,o::rest,ov,H,K=>
  match qdG ops ov o with
  |none=>none
  |some b=>
   cond b (qnY cfg cf fs (cfg.frz f rid i) none o (opdO ov) H λv H'=>yOps cfg cf fs f rid ops n (i+1) rest (putO n ov o.dst v) H' K)
    (yOps cfg cf fs f rid ops n (i+1) rest (putO n ov o.dst (.tup [])) H K)
theorem qgU{cfg:Cfg}{cf:Orac}(hcf:Le cf (EV cfg)){fs:List Fact}(hfs:xQ cfg fs){f rid n:Nat}{ops:Array Oper}{r:β}:∀{l:List Oper} {i:Nat} {ov:Ov} {H:AH} {K:Ov->AH->Option β},OvOk n ov->yOps cfg cf fs f rid ops n i l ov H K=some r ->
  ∃ov' H',OvOk n ov'∧zU cfg (EV cfg) f rid ops i l (den n ov) H=some (den n ov',H')∧K ov' H'=some r
 |[],i,ov,H,K,hok,h=>⟨ov,H,hok,rfl,h⟩
 |o::l,i,ov,H,K,hok,h=>by
  rw[yOps]at h;rw[zU,qkA hok];cases hw:qdG ops ov o with
  |none=>rw[hw]at h;cases h
  |some b=>
   rw[hw]at h;simp only[qBs];cases b with
   |true=>
    simp only[cond_true]at h;obtain⟨q,h1,h2⟩:=qj6 hcf hfs h;simp only[if_true,qfD hok,h1,qBs];obtain⟨ov',H',h3,h4,h5⟩:=qgU hcf hfs (qil hok _ _) h2;rw[qgc]at h4;exact⟨ov',H',h3,h4,h5⟩
   |false=>
    simp only[cond_false]at h;simp only[qBu,if_false];obtain⟨ov',H',h3,h4,h5⟩:=qgU hcf hfs (qil hok _ _) h;rw[qgc]at h4;exact⟨ov',H',h3,h4,h5⟩
def qka(cfg:Cfg)(cf:Orac)(fs:List Fact)(f rid:Nat)(ops:Array Oper)(n:Nat):Nat->Nat->List Oper->Ov->AH->(List DR->Ov->AH->Option β)->Option β
 |_,_,[],ov,H,K=>K [] ov H
 |i,at_,o::rest,ov,H,K=>
  match qdG ops ov o with
  |none=>none
  |some b=>
   fNat (at_+qc4 cfg o) λat'=>
   cond b (qnY cfg cf fs (cfg.frz f rid i) (some at_) o (opdO ov) H λv H'=>qka cfg cf fs f rid ops n (i+1) at' rest (putO n ov o.dst v) H' λfps ov' H''=>K (drOf cfg (cfg.frz f rid i) at_ o (opdO ov) H v H'::fps) ov' H'')
    (qka cfg cf fs f rid ops n (i+1) at' rest (putO n ov o.dst (.tup [])) H λfps ov' H''=>K (drNo H::fps) ov' H'')
theorem qfZ{cfg:Cfg}{cf:Orac}(hcf:Le cf (EV cfg)){fs:List Fact}(hfs:xQ cfg fs){f rid n:Nat}{ops:Array Oper}{r:β}:∀{l:List Oper} {i at_:Nat} {ov:Ov} {H:AH} {K:List DR->Ov->AH->Option β},OvOk n ov->qka cfg cf fs f rid ops n i at_ l ov H K=some r ->
  ∃fps ov' H',OvOk n ov'∧yr cfg (EV cfg) f rid ops i at_ l (den n ov) H=some (fps,den n ov',H')∧K fps ov' H'=some r
 |[],i,at_,ov,H,K,hok,h=>⟨[],ov,H,hok,rfl,h⟩
 |o::l,i,at_,ov,H,K,hok,h=>by
  rw[qka]at h;rw[yr,qkA hok];cases hw:qdG ops ov o with
  |none=>rw[hw]at h;cases h
  |some b=>
   rw[hw]at h;simp only[qBs];simp only[zg]at h;cases b with
   |true=>
    simp only[cond_true]at h;obtain⟨q,h1,h2⟩:=qj6 hcf hfs h;simp only[if_true,qfD hok,h1,qBs];obtain⟨fps,ov',H',h3,h4,h5⟩:=qfZ hcf hfs (qil hok _ _) h2;rw[qgc]at h4;exact⟨_,ov',H',h3,by rw[h4];rfl,h5⟩
   |false=>
    simp only[cond_false]at h;simp only[qBu,if_false];obtain⟨fps,ov',H',h3,h4,h5⟩:=qfZ hcf hfs (qil hok _ _) h;rw[qgc]at h4;exact⟨_,ov',H',h3,by rw[h4];rfl,h5⟩
def qc1:Nat->List Nat->Bool
 |_,[]=>true
 |i,k::ks=>qBv i k&&qc1 (k+1) ks
def qn7(ks:List Nat)(ov:Ov):(Ov->α)->α:=
 List.rec (motive:=λ_=>(Ov->α)->α) (λK=>K []) (λt _ ih K=>gW (xU t ov) λv=>ih λl=>K ((t,v)::l)) ks
theorem qw7(ks:List Nat)(ov:Ov):∀(K:Ov->α),qn7 ks ov K=K (ks.map λt=>(t,xU t ov)):=by
 induction ks with
 |nil=>intro K;rfl
 |cons t l ih=>
  intro K;have:qn7 (t::l) ov K=gW (xU t ov) λv=>qn7 l ov λl=>K ((t,v)::l):=rfl
  rw[this,qiu,ih,qBZ]
theorem qdt:∀(ks:List Nat) (fr:List AV) (i t:Nat),qc1 i ks=true->(yq i ks fr)[t]? =if t<fr.length then some (if i+t∈ks then(fr[t]?).getD .junk else .junk)else none
 |ks,[],i,t,_=>by cases ks<;>simp[yq]
 |[],a::fr,i,t,h=>by
  rw[yq];cases t with
  |zero=>simp
  |succ t=>
   simp only[qBQ];rw[qdt [] fr i t rfl];simp
 |k::ks,a::fr,i,t,h=>by
  rw[qc1,qBi,qBN]at h;rw[yq];have hge:∀(l:List Nat) (j:Nat),qc1 j l=true->∀x∈l,j<=x:=by
   intro l
   induction l with
   |nil=>intro j _ x hx;cases hx
   |cons y l ih=>
    intro j hj x hx;rw[qc1,qBi,qBN]at hj;rcases qBG.1 hx with rfl|hx
    ·exact hj.1
    ·have:=ih _ hj.2 x hx;omega
  split
  ·rename_i e;have e:=qBo e;subst e;cases t with
   |zero=>simp
   |succ t=>
    simp only[qBQ];rw[qdt ks fr (i+1) t h.2];have e1:i+(t+1)=i+1+t:=by omega
    have e2:¬i+1+t=i:=by omega
    simp only[qBK,Nat.add_lt_add_iff_right,e1,qBG,e2,false_or]
  ·rename_i e;have hne:i≠k:=λh'=>e (by rw[h'];exact qBL _)
   cases t with
   |zero=>
    have:i ∉ k::ks:=by
     intro hm;rcases qBG.1 hm with rfl|hm
     ·exact hne rfl
     ·have:=hge _ _ h.2 i hm;omega
    simp[this]
   |succ t=>
    simp only[qBQ];rw[qdt (k::ks) fr (i+1) t (by rw[qc1,qBi,qBN];exact⟨by omega,h.2⟩)];have e1:i+(t+1)=i+1+t:=by omega
    simp only[qBK,Nat.add_lt_add_iff_right,e1]
theorem quY(ks:List Nat)(g:Nat->AV)(t:Nat):xU t (ks.map λt=>(t,g t))=if t∈ks then g t else .junk:=by
 induction ks with
 |nil=>rfl
 |cons k l ih=>
  rw[qBZ,qb8,ih]
  by_cases e:k=t
  ·subst e;simp
  ·have h1:qBh k t=false:=by rw[←Bool.not_eq_true];intro h';exact e (qBo h')
   have h2:¬t=k:=λh=>e h.symm
   rw[h1,cond_false];simp only[qBG,h2,false_or]
def qj7(n:Nat)(ts:Option (List Nat))(ov:Ov)(K:Ov->Option β):Option β:=
 match ts with
 |none=>K ov
 |some ks=>cond (qc1 0 ks&&ks.all λt=>Nat.blt t n) (qn7 ks ov K) none
theorem qfY{n:Nat}{ts:Option (List Nat)}{ov:Ov}{K:Ov->Option β}{r:β}(hok:OvOk n ov)(h:qj7 n ts ov K=some r):∃ov',OvOk n ov'∧vW ts (den n ov)=den n ov'∧K ov'=some r:=by
 cases ts with
 |none=>exact⟨ov,hok,rfl,h⟩
 |some ks=>
  simp only[qj7,qw7]at h;cases hc:(qc1 0 ks&&ks.all λt=>Nat.blt t n)with
  |false=>rw[hc]at h;cases h
  |true=>
   rw[hc]at h;rw[qBi,List.all_eq_true]at hc;have hok':OvOk n (ks.map λt=>(t,xU t ov)):=by
    intro p hp;obtain⟨t,ht,rfl⟩:=List.mem_map.1 hp;have:=hc.2 t ht
    simpa [qBY]using this
   refine⟨_,hok',(qmD hok' ?_ λt ht=>?_).symm,h⟩
   ·show(yq 0 ks (den n ov)).length=n;rw[(qcc (ts:=ks) (fr:=den n ov) (k:=0)).1,qfN]
   ·show(yq 0 ks (den n ov))[t]? =_;rw[qdt _ _ _ _ hc.1,qfN,qB5 ht,qB0,quY,qfO hok,qB5 ht];rfl
def qdl(n:Nat):List (Tmp×Nat)->Ov->AH->(Ov->AH->Option β)->Option β
 |[],ov,H,K=>K ov H
 |p::l,ov,H,K=>
  match xU p.1 ov with
  | .nilS=>fNat H.length λi=>cond (Nat.blt p.1 n) (gS (H++[.rows true p.2 []]) λH'=>qdl n l ((p.1,.ms i 0 0)::ov) H' K) none
  | .ptr _ _ _=>(match yS p.1 p.2 (den n ov) H with|q=>gH q.2 λH'=>qdl n l ov H' K)
  |_=>qdl n l ov H K
theorem qvf{t sz:Nat}{fr:List AV}{H:AH}{id r off:Nat}(h:fr[t]? =some (.ptr id r off)):(yS t sz fr H).1=fr:=by
 unfold yS;rw[h];simp only;split
 ·split
  ·split
   ·rfl
   ·split
    ·split<;>rfl
    ·rfl
   ·rfl
  ·rfl
 ·rfl
theorem qa9{n:Nat}{r:β}:∀{ls:List (Tmp×Nat)} {ov:Ov} {H:AH} {K:Ov->AH->Option β},OvOk n ov->qdl n ls ov H K=some r->∃ov' H',OvOk n ov'∧vT ls (den n ov) H=(den n ov',H')∧K ov' H'=some r
 |[],ov,H,K,hok,h=>⟨ov,H,hok,rfl,h⟩
 |p::l,ov,H,K,hok,h=>by
  rw[qdl]at h;rw[vT];have hget:(den n ov)[p.1]? =if p.1<n then some (xU p.1 ov)else none:=qfO hok p.1
  split at h
  ·rename_i hv;simp only[zg]at h;cases hb:Nat.blt p.1 n with
   |false=>rw[hb]at h;cases h
   |true=>
    rw[hb]at h;simp only[cond_true,zG]at h;have hlt:p.1<n:=by simpa [qBY]using hb
    have hl1:yS p.1 p.2 (den n ov) H=(den n ((p.1,.ms H.length 0 0)::ov),H++[.rows true p.2 []]):=by
     unfold yS;rw[hget,qB5 hlt,hv];rfl
    rw[hl1];exact qa9 (λq hq=>(qBG.1 hq).elim (λe=>by subst e;exact hlt) (hok q)) h
  ·rename_i id r' off hv;simp only[qgt]at h
   by_cases hlt:p.1<n
   ·rw[qvf (by rw[hget,qB5 hlt,hv])];exact qa9 hok h
   ·rw[qhq hok hlt]at hv;cases hv
  ·rename_i h1 h2;have hl1:yS p.1 p.2 (den n ov) H=(den n ov,H):=by
    unfold yS;rw[hget]
    by_cases hlt:p.1<n
    ·rw[qB5 hlt];split
     ·rename_i e;exact absurd (Option.some.inj e) h1
     ·rename_i a b c e;exact absurd (Option.some.inj e) (h2 a b c)
     ·rfl
    ·rw[qB6 hlt]
   rw[hl1];exact qa9 hok h
def spGo:Nat->List AV->Ov
 |_,[]=>[]
 |i,.junk::l=>spGo (i+1) l
 |i,v::l=>(i,v)::spGo (i+1) l
theorem qoF:∀(l:List AV) (i t:Nat),xU t (spGo i l)=if i<=t then(l[t - i]?).getD .junk else .junk
 |[],i,t=>by simp[spGo,qhp]
 |a::l,i,t=>by
  have ih:=qoF l (i+1) t;have key:∀(ov:Ov),ov=(i,a)::spGo (i+1) l->xU t ov=if i<=t then((a::l)[t - i]?).getD .junk else .junk:=by
   intro ov e;rw[e,qb8,ih]
   by_cases e2:i=t
   ·subst e2;simp
   ·have h1:qBh i t=false:=by rw[←Bool.not_eq_true];intro h';exact e2 (qBo h')
    simp only[h1,cond_false]
    by_cases h3:i+1<=t
    ·have h4:t - i=(t - (i+1))+1:=by omega
     rw[qB5 h3,qB5 (by omega),h4,qBQ]
    ·rw[qB6 h3,qB6 (by omega)]
  cases a with
  |junk=>
   show xU t (spGo (i+1) l)=_;rw[ih]
   by_cases h3:i+1<=t
   ·have h4:t - i=(t - (i+1))+1:=by omega
    rw[qB5 h3,qB5 (by omega),h4,qBQ]
   ·rw[qB6 h3]
    by_cases e2:i=t
    ·subst e2;simp
    ·rw[qB6 (by omega)]
  |_=>exact key _ rfl
theorem qdH:∀(l:List AV) (i n:Nat),i+l.length<=n->OvOk n (spGo i l)
 |[],i,n,_=>λp hp=>by cases hp
 |a::l,i,n,h=>by
  simp only[qBK]at h;have ih:=qdH l (i+1) n (by omega);have key:OvOk n ((i,a)::spGo (i+1) l):=λp hp=>by
   rcases qBG.1 hp with rfl|hp
   ·show i<n;omega
   ·exact ih p hp
  cases a<;>first|exact key|exact ih
theorem qlX(l:List AV):den l.length (spGo 0 l)=l:=by
 have hok:=qdH l 0 l.length (by omega);refine qmD hok rfl λt ht=>?_
 rw[qoF,qB5 (Nat.zero_le _),Nat.sub_zero,qBk ht];rfl
def yGc(n k:Nat)(ov:Ov)(H:AH)(K:Ov->AH->Option β):Option β:=
 cond (qBv H.length k) (K ov H) (match qck k (den n ov) H with|q=>gS (spGo 0 q.1) λov'=>gL gP ov' λov'=>gH q.2 λH'=>K ov' H')
theorem qwT(ρ:Nat->Nat)(l:List AV):(renL ρ l).length=l.length:=by rw[qah];simp
theorem qvz(k:Nat)(fr:List AV)(H:AH):(qck k fr H).1.length=fr.length:=by
 unfold qck;simp only;cases yN H (yB k H (2*H.length+16) [] (vt k fr++xJ k (H.take k)))with
 |none=>rfl
 |some bs=>
  simp only;split
  ·exact qwT _ _
  ·rfl
theorem qwv{n k:Nat}{ov:Ov}{H:AH}{K:Ov->AH->Option β}{r:β}(hok:OvOk n ov)(h:yGc n k ov H K=some r):∃ov' H',OvOk n ov'∧gc k (den n ov) H=(den n ov',H')∧K ov' H'=some r:=by
 unfold yGc at h;unfold gc;cases hb:qBv H.length k with
 |true=>rw[hb]at h;exact⟨ov,H,hok,by simp,h⟩
 |false=>
  rw[hb]at h;simp only[cond_false]at h;rw[zG,qam qtr,qgt]at h;have hl:(qck k (den n ov) H).1.length=n:=by rw[qvz,qfN]
  have:=qlX (qck k (den n ov) H).1;rw[hl]at this;refine⟨_,_,?_,?_,h⟩
  ·exact qdH _ _ _ (by omega)
  ·simp only[qBu,if_false,this]
def qsa(n k:Nat)(ts:Option (List Tmp))(ls:List (Tmp×Nat))(ov:Ov)(H:AH)(K:Ov->AH->Option β):Option β:=
 qj7 n ts ov λov=>qdl n ls ov H λov H=>yGc n k ov H K
theorem qj9{n k:Nat}{ts:Option (List Tmp)}{ls:List (Tmp×Nat)}{ov:Ov}{H:AH}{K:Ov->AH->Option β}{r:β}(hok:OvOk n ov)(h:qsa n k ts ls ov H K=some r):
  ∃ov' H',OvOk n ov'∧yY k ts ls (den n ov) H=(den n ov',H')∧K ov' H'=some r:=by
 obtain⟨ov1,h1,h2,h⟩:=qfY hok h;obtain⟨ov2,H2,h3,h4,h⟩:=qa9 h1 h;obtain⟨ov3,H3,h5,h6,h⟩:=qwv h3 h;refine⟨ov3,H3,h5,?_,h⟩;unfold yY;rw[h2,h4];exact h6
abbrev YE(β:Type):=Ex->Ov->AH->Option β
def qnZ(n k:Nat)(ts:Option (List Tmp))(ls:List (Tmp×Nat))(body:Ov->AH->YE β->Option β):Nat->Ov->AH->YE β->Option β
 |0,_,_,_=>none
 |m+1,ov,H,K=>body ov H λe ov' H'=>
  match e with
  | .normal=>qsa n k ts ls ov' H' λov2 H2=>qnZ n k ts ls body m ov2 H2 K
  |e=>K e ov' H'
def qua(cfg:Cfg)(cf:Orac)(f:Nat)(rd:Option Nat)(n bs:Nat)(g:Operand)(ps:Array Tmp)(assign body:Code)(ov:Ov)(H:AH)(K:YE β):Option β:=
 gL gW (den n ov) λfr=>
 match qaH cfg cf f rd bs g ps assign body fr H with
 |none=>none
 |some q=>gS (spGo 0 q.2.1) λov'=>gL gP ov' λov'=>gH q.2.2 λH'=>cond (qBh q.2.1.length n) (K q.1 ov' H') none
def yC(cfg:Cfg)(cf:Orac)(fs:List Fact)(m f:Nat)(rd:Option Nat)(n bs:Nat):Code->Ov->AH->YE β->Option β
 | .skip,ov,H,K=>K .normal ov H
 | .label _,ov,H,K=>K .normal ov H
 | .region id ops draw,ov,H,K=>
  match draw with
  |true=>cond (qa4 ops) (gS (H++qBI (places cfg ops.toList) .res) λH1=>qka cfg cf fs f id ops n 0 H.length ops.toList ov H1 λfps ov' H'=>cond (qdM (ancs [] ops.toList) H1 fps) (K .normal ov' H') none) none
  |false=>yOps cfg cf fs f id ops n 0 ops.toList ov H λov' H'=>K .normal ov' H'
 | .seq a b,ov,H,K=>
  match qdb a with
  |some p=>
   gL gW (den n ov) λfr=>
   match(qan cfg cf f p.1 p.2 p.2.size [] fr H).bind λL=>qaB (λfr H=>(xC cfg cf m f rd bs b (vW (cfg.cut f (qk b)) fr) H).map (qiw bs (dsts a++dsts b))) L with
   |none=>none
   |some q=>gS (spGo 0 q.2.1) λov'=>gL gP ov' λov'=>gH q.2.2 λH'=>cond (qBh q.2.1.length n) (K q.1 ov' H') none
  |none=>yC cfg cf fs m f rd n bs a ov H λe ov' H'=>
   match e with
   | .normal=>qj7 n (cfg.cut f (qk b)) ov' λov2=>yC cfg cf fs m f rd n bs b ov2 H' K
   |e=>K e ov' H'
 | .cond c a b,ov,H,K=>
  match opdO ov c with
  | .bool t=>(match t with|true=>yC cfg cf fs m f rd n bs a ov H K|false=>yC cfg cf fs m f rd n bs b ov H K)
  |_=>none
 | .block id a,ov,H,K=>yC cfg cf fs m f rd n bs a ov H λe ov' H'=>
  match e with
  | .exit id'=>cond (qBh id' id) (K .normal ov' H') (K (.exit id') ov' H')
  |e=>K e ov' H'
 | .loop a,ov,H,K=>qsa n bs (cfg.keepIn f (qk a)) (cfg.lift f (qk a)) ov H λov H=>
   qnZ n bs (cfg.keepIn f (qk a)) (cfg.lift f (qk a)) (yC cfg cf fs m f rd n bs a) m ov H λe ov H=>qj7 n (cfg.keepOut f (qk a)) ov λov=>K e ov H
 | .scope a,ov,H,K=>yC cfg cf fs m f rd n bs a ov H λe ov' H'=>
  match e with
  | .goto _=>none
  |e=>K e ov' H'
 | .exit id,ov,H,K=>K (.exit id) ov H
 | .goto _,_,_,_=>none
 | .ret,ov,H,K=>K .ret ov H
 | .rangeFunc g ps assign body,ov,H,K=>qdl n (cfg.lift f (qk body)) ov H λov H=>qua cfg cf f rd n bs g ps assign body ov H K
 | .refuse _,_,_,_=>none
theorem qj8{n k:Nat}{ts:Option (List Tmp)}{ls:List (Tmp×Nat)}{body:Ov->AH->YE β->Option β}{den':Den}{r:β}(hb:∀{ov H K},OvOk n ov->body ov H K=some r->∃e ov' H',OvOk n ov'∧den' (den n ov) H=some (e,den n ov',H')∧K e ov' H'=some r):
  ∀(m:Nat) {ov:Ov} {H:AH} {K:YE β},OvOk n ov->qnZ n k ts ls body m ov H K=some r->∃e ov' H',OvOk n ov'∧yR k ts ls den' m (den n ov,H)=some (e,den n ov',H')∧K e ov' H'=some r
 |0,ov,H,K,_,h=>by cases h
 |m+1,ov,H,K,hok,h=>by
  rw[qnZ]at h;obtain⟨e,ov1,H1,h1,h2,h3⟩:=hb hok h;rw[yR];simp only[h2,qBs];cases e with
  |normal=>
   simp only at h3⊢;obtain⟨ov2,H2,h4,h5,h6⟩:=qj9 h1 h3;rw[h5];exact qj8 hb m h4 h6
  |exit id=>exact⟨_,ov1,H1,h1,rfl,h3⟩
  |goto l=>exact⟨_,ov1,H1,h1,rfl,h3⟩
  |ret=>exact⟨_,ov1,H1,h1,rfl,h3⟩
theorem qmb{cfg:Cfg}{cf:Orac}(hcf:Le cf (EV cfg)){fs:List Fact}(hfs:xQ cfg fs){m f:Nat}{rd:Option Nat}{n bs:Nat}{r:β}:∀(c:Code) {ov:Ov} {H:AH} {K:YE β},OvOk n ov->yC cfg cf fs m f rd n bs c ov H K=some r ->
  ∃e ov' H',OvOk n ov'∧evC cfg (EV cfg) f rd bs c (den n ov) H=some (e,den n ov',H')∧K e ov' H'=some r:=by
 intro c
 induction c with
 |skip=>intro ov H K hok h;exact⟨_,ov,H,hok,by simp only[evC],h⟩
 |label l=>intro ov H K hok h;exact⟨_,ov,H,hok,by simp only[evC],h⟩
 |exit id=>intro ov H K hok h;exact⟨_,ov,H,hok,by simp only[evC],h⟩
 |ret=>intro ov H K hok h;exact⟨_,ov,H,hok,by simp only[evC],h⟩
 |goto l=>intro ov H K hok h;cases h
 |refuse s=>intro ov H K hok h;cases h
 |region id ops draw=>
  intro ov H K hok h;simp only[yC]at h;simp only[evC];cases draw with
  |true=>
   simp only at h;obtain⟨h1,h⟩:=qm h;rw[zG]at h;obtain⟨fps,ov',H',h2,h3,h⟩:=qfZ hcf hfs hok h;obtain⟨h4,h⟩:=qm h;exact⟨_,ov',H',h2,by simp only[if_true,h1,h3,qBs,h4],h⟩
  |false=>
   simp only at h;obtain⟨ov',H',h2,h3,h⟩:=qgU hcf hfs hok h;exact⟨_,ov',H',h2,by simp only[qBu,if_false,h3,qBD],h⟩
 |seq x y ihx ihy=>
  intro ov H K hok h;simp only[yC]at h;simp only[evC];cases hco:qdb x with
  |some p=>
   simp only[hco]at h⊢;rw[qam qiu]at h;split at h
   ·cases h
   ·rename_i q hq;obtain⟨L,hL,hq⟩:=qBl.1 hq;have hev:Ev (λ_=>EV cfg) cf:=λt a H r h=>⟨0,λ_ _=>hcf t a H r h⟩
    obtain⟨_,hL'⟩:=qjU hev cfg f p.1 p.2 _ _ _ _ _ hL;have hL':qan cfg (EV cfg) f p.1 p.2 p.2.size [] (den n ov) H=some L:=hL' _ (qBp _);have hq':=qoT (G:=λfr H=>(evC cfg (EV cfg) f rd bs y (vW (cfg.cut f (qk y)) fr) H).map (qiw bs (dsts x++dsts y))) (λfr H r hr=>by
     obtain⟨r',hr',e⟩:=qBq.1 hr;rw[qA4 cfg hcf m f rd bs y _ _ _ hr',←e];rfl) hq
    rw[zG,qam qtr,qgt]at h;obtain⟨hl,h⟩:=qm h;have hl:=qBo hl;have hd:=qlX q.2.1;rw[hl]at hd;refine⟨q.1,_,q.2.2,?_,?_,h⟩
    ·exact qdH _ _ _ (by omega)
    ·rw[hL',qBs,hq',hd]
  |none=>?_
  simp only[hco]at h⊢;obtain⟨e,ov1,H1,h1,h2,h⟩:=ihx hok h;rw[h2];simp only[qBs];cases e with
  |normal=>
   simp only at h⊢;obtain⟨ov2,h3,h4,h⟩:=qfY h1 h;rw[h4];exact ihy h3 h
  |exit id=>exact⟨_,ov1,H1,h1,rfl,h⟩
  |goto l=>exact⟨_,ov1,H1,h1,rfl,h⟩
  |ret=>exact⟨_,ov1,H1,h1,rfl,h⟩
 |cond c x y ihx ihy=>
  intro ov H K hok h;simp only[yC]at h;simp only[evC,qfD hok];split at h
  ·rename_i t ht;rw[ht];cases t with
   |true=>exact ihx hok h
   |false=>exact ihy hok h
  ·cases h
 |block id x ih=>
  intro ov H K hok h;simp only[yC]at h;simp only[evC];obtain⟨e,ov1,H1,h1,h2,h⟩:=ih hok h;rw[h2];simp only[qBs];cases e with
  |normal=>exact⟨_,ov1,H1,h1,rfl,h⟩
  |exit id'=>
   simp only at h⊢;cases hb:qBh id' id with
   |true=>rw[hb]at h;exact⟨_,ov1,H1,h1,by simp,h⟩
   |false=>rw[hb]at h;exact⟨_,ov1,H1,h1,by simp,h⟩
  |goto l=>exact⟨_,ov1,H1,h1,rfl,h⟩
  |ret=>exact⟨_,ov1,H1,h1,rfl,h⟩
 |loop x ih=>
  intro ov H K hok h;simp only[yC]at h;simp only[evC];obtain⟨ov1,H1,h1,h2,h⟩:=qj9 hok h;rw[h2];obtain⟨e,ov2,H2,h3,h4,h⟩:=qj8 (den':=evC cfg (EV cfg) f rd bs x) (λhok h=>ih hok h) m h1 h;obtain⟨ov3,h5,h6,h⟩:=qfY h3 h;rw[qfW h4];exact⟨e,ov3,H2,h5,by simp only[qBD,h6],h⟩
 |scope x ih=>
  intro ov H K hok h;simp only[yC]at h;simp only[evC];obtain⟨e,ov1,H1,h1,h2,h⟩:=ih hok h;rw[h2];simp only[qBs];cases e with
  |goto l=>cases h
  |normal=>exact⟨_,ov1,H1,h1,rfl,h⟩
  |exit id=>exact⟨_,ov1,H1,h1,rfl,h⟩
  |ret=>exact⟨_,ov1,H1,h1,rfl,h⟩
 |rangeFunc g ps assign body=>
  intro ov H K hok h;simp only[yC]at h;simp only[evC];obtain⟨ov1,H1,h1,h2,h⟩:=qa9 hok h;rw[h2];simp only;unfold qua at h;rw[qam qiu]at h;split at h
  ·cases h
  ·rename_i q hq;have hq:qaH cfg (EV cfg) f rd bs g ps assign body (den n ov1) H1=some q:=by
    unfold qaH at hq⊢;split at hq
    ·rename_i hl;rw[qB5 hl];split at hq
     ·split at hq
      ·cases hq
      ·rename_i hx;rw[qB6 hx];obtain⟨q2,hq2,hq⟩:=qBl.1 hq;rw[hcf _ _ _ _ hq2];exact hq
     ·cases hq
    ·cases hq
   rw[zG,qam qtr,qgt]at h;obtain⟨hl,h⟩:=qm h;have hl:=qBo hl;have hd:=qlX q.2.1;rw[hl]at hd;refine⟨q.1,_,q.2.2,?_,?_,h⟩
   ·exact qdH _ _ _ (by omega)
   ·rw[hq,hd]
def resO(rs:List ResultVar)(ty:TypeId->Option TI)(ov:Ov)(H:AH):Option (List AV):=
 match rs with
 |[]=>some []
 | .tmp t::l=>(resO l ty ov H).map λvs=>xU t ov::vs
 | .cell a t::l=>
  match ty t with
  |some ti=>(qar ti.d.agg ti.sz H (xU a ov)).bind λv=>(resO l ty ov H).map λvs=>v::vs
  |none=>none
theorem qmm{n:Nat}{ov:Ov}(hok:OvOk n ov)(ty:TypeId->Option TI)(H:AH):∀rs:List ResultVar,yj rs ty (den n ov) H=resO rs ty ov H
 |[]=>rfl
 | .tmp t::l=>by
  have:(den n ov).getD t .junk=xU t ov:=congrFun (qfD hok) (.tmp t);simp only[yj,resO,qmm hok ty H l,this]
 | .cell a t::l=>by
  have:(den n ov).getD a .junk=xU a ov:=congrFun (qfD hok) (.tmp a);simp only[yj,resO,qmm hok ty H l,this];cases ty t<;>rfl
def yEnd(cfg:Cfg)(f n:Nat)(rs:List ResultVar):YE (AV×AH):=λe ov H=>
 match e with
 | .normal| .ret=>qdl n (cfg.lift f 0) ov H λov H=>(match resO rs cfg.ty ov H with|some vs=>gA (z5 vs) λv=>some (v,H)|none=>none)
 |_=>none
def qgA:Nat->List AV->Ov
 |_,[]=>[]
 |i,a::l=>(i,a)::qgA (i+1) l
theorem qjY:∀(l:List AV) (i n:Nat),i+l.length<=n->OvOk n (qgA i l)
 |[],i,n,_=>λp hp=>by cases hp
 |a::l,i,n,h=>by
  simp only[qBK]at h;intro p hp;rcases qBG.1 hp with rfl|hp
  ·show i<n;omega
  ·exact qjY l (i+1) n (by omega) p hp
theorem qny:∀(l:List AV) (i t:Nat),xU t (qgA i l)=if i<=t then(l[t - i]?).getD .junk else .junk
 |[],i,t=>by simp[qgA,qhp]
 |a::l,i,t=>by
  rw[qgA,qb8,qny l (i+1) t]
  by_cases e2:i=t
  ·subst e2;simp
  ·have h1:qBh i t=false:=by rw[←Bool.not_eq_true];intro h';exact e2 (qBo h')
   simp only[h1,cond_false]
   by_cases h3:i+1<=t
   ·have h4:t - i=(t - (i+1))+1:=by omega
    rw[qB5 h3,qB5 (by omega),h4,qBQ]
   ·rw[qB6 h3,qB6 (by omega)]
theorem qxv{l:List AV}{n:Nat}(h:l.length<=n):den n (qgA 0 l)=l++qBI (n - l.length) .junk:=by
 refine qmD (qjY l 0 n (by omega)) (by simp;omega) λt ht=>?_
 rw[qny,qB5 (Nat.zero_le _),Nat.sub_zero]
 by_cases hl:t<l.length
 ·rw[qBx hl,qBk hl];rfl
 ·rw[qBz (by omega),List.getElem?_replicate,qB5 (by omega),List.getElem?_eq_none (by omega)];rfl
def yY2(id:Nat):YE (AV×AH):=λe _ H=>
 match H[id]? with
 |some (.loop f' fr' ps' assign' body' _ _)=>
  match e with
  | .normal=>gS (H.set id (.loop f' fr' ps' assign' body' none .ready)) λH'=>some (.bool true,H')
  | .ret=>gS (H.set id (.loop f' fr' ps' assign' body' (some .ret) .done)) λH'=>some (.bool false,H')
  | .exit x=>gS (H.set id (.loop f' fr' ps' assign' body' (some (.exit x)) .done)) λH'=>some (.bool false,H')
  | .goto _=>none
 |_=>none
def yF(cfg:Cfg)(look:Nat->Option Func)(fs:List Fact)(m:Nat):Nat->Orac
 |0,_,_,_=>none
 |d+1,.f f,args,H=>
  match cfg.ext f with
  |some s=>s args H
  |none=>
   if cfg.known f then
    match look f with
    |some fn=>
     match fn.body with
     |some c=>cond (qBv args.length fn.ntmps) (fNat H.length λbs=>fNat fn.ntmps λn=>gS (qgA 0 args) λov=>yC cfg (yF cfg look fs m d) fs m f none n bs c ov H (yEnd cfg f n fn.results.toList)) none
     |none=>none
    |none=>none
   else none
 |d+1,.y id,args,H=>
  match H[id]? with
  |some (.loop f fr ps assign body _ .ready)=>
   cond (qBh args.length ps.length)
    (fNat H.length λbs=>fNat (zb fr ps args).length λn=>gS (spGo 0 (zb fr ps args)) λov=>yC cfg (yF cfg look fs m d) fs m f (some id) n bs assign ov H λe ov H=>
     match e with
     | .normal=>
      (match H[id]? with
      |some (.loop f' fr' ps' assign' body' pend' .ready)=>gS (H.set id (.loop f' fr' ps' assign' body' pend' .busy)) λH'=>yC cfg (yF cfg look fs m d) fs m f (some id) n bs body ov H' (yY2 id)
      |_=>none)
     |_=>none) none
  |_=>none
theorem qsb(cfg:Cfg){look:Nat->Option Func}(hl:∀f fn,look f=some fn->cfg.P.funcs[f]? =some fn){fs:List Fact}(hfs:xQ cfg fs)(m:Nat):∀(d:Nat) (t:Tgt) (a:List AV) (H:AH) (r),yF cfg look fs m d t a H=some r->EV cfg t a H=some r
 |0,_,_,_,_,h=>by cases h
 |d+1,t,a,H,r,h=>by
  have ih:=qsb cfg hl hfs m d;refine qoj ?_;cases t with
  |f f=>
   simp only[yF]at h;unfold yg;split at h
   ·rename_i s hs;simp only[hs];exact h
   ·rename_i hs;simp only[hs];split at h
    ·rename_i hk;rw[qB5 hk];split at h
     ·rename_i fn hf;simp only[hl f fn hf];split at h
      ·rename_i c hb;simp only[hb];obtain⟨hle,h⟩:=qm h;rw[qBN]at hle;simp only[zg,zG]at h;obtain⟨e,ov',H',h1,h2,h3⟩:=qmb ih hfs c (qjY a 0 fn.ntmps (by omega)) h;rw[qxv hle]at h2;rw[h2];simp only[qBs];unfold yEnd at h3;have fin:∀(e:Ex),(e= .normal∨e= .ret)->(qdl fn.ntmps (cfg.lift f 0) ov' H' λov H=>(match resO fn.results.toList cfg.ty ov H with|some vs=>gA (z5 vs) λv=>some (v,H)|none=>none))=some r ->
         qc7 cfg fn.results.toList (e,vT (cfg.lift f 0) (den fn.ntmps ov') H')=some r:=by
        intro e he h3;obtain⟨ov2,H2,h4,h5,h6⟩:=qa9 h1 h3;rw[h5];unfold qc7;rcases he with rfl|rfl<;>
        ·simp only[qmm h4];split at h6
         ·rename_i vs hv;rw[qcP]at h6;rw[hv];exact h6
         ·cases h6
       cases e with
       |normal=>exact fin _ (.inl rfl) h3
       |ret=>exact fin _ (.inr rfl) h3
       |exit x=>cases h3
       |goto l=>cases h3
      ·cases h
     ·cases h
    ·cases h
  |y id=>
   simp only[yF]at h;unfold yg;split at h
   ·rename_i f fr ps assign body p hlp;simp only[hlp];obtain⟨hlen,h⟩:=qm h;rw[qB5 (qBo hlen)];simp only[zg,zG]at h;obtain⟨e,ov1,H1,h1,h2,h3⟩:=qmb ih hfs assign (qdH _ 0 _ (by omega)) h;rw[qlX]at h2;rw[h2];simp only[qBs];cases e with
    |normal=>
     simp only at h3⊢;split at h3
     ·rename_i f' fr' ps' assign' body' pend' hl1;simp only[hl1];obtain⟨e2,ov2,H2,h4,h5,h6⟩:=qmb ih hfs body h1 h3;rw[h5];simp only[qBs];unfold yY2 at h6;split at h6
      ·rename_i hl2;simp only[hl2];cases e2 with
       |normal=>simp only[zG]at h6;exact h6
       |ret=>simp only[zG]at h6;exact h6
       |exit x=>simp only[zG]at h6;exact h6
       |goto l=>cases h6
      ·cases h6
     ·cases h3
    |exit x=>cases h3
    |goto l=>cases h3
    |ret=>cases h3
   ·cases h
theorem qzk{cfg:Cfg}{look:Nat->Option Func}(hl:∀f fn,look f=some fn->cfg.P.funcs[f]? =some fn){fs:List Fact}(hfs:xQ cfg fs){f:Nat}{args:List AV}{v:AV}(m d:Nat)(h:(match yF cfg look fs m d (.f f) args []with|some r=>some r.1|none=>none)=some v):EVs (EV cfg) f args=some v:=by
 unfold EVs;cases hx:yF cfg look fs m d (.f f) args []with
 |none=>rw[hx]at h;cases h
 |some r=>rw[hx]at h;rw[qsb cfg hl hfs m d _ _ _ _ hx];exact h
theorem qzl{cfg:Cfg}{look:Nat->Option Func}(hl:∀f fn,look f=some fn->cfg.P.funcs[f]? =some fn){fs:List Fact}(hfs:xQ cfg fs){f:Nat}{args:List AV}{v:AV}(m d:Nat)(h:(match yF cfg look fs m d (.f f) args []with|some r=>gA (r.1.frz r.1.msIds r.2).fg some|none=>none)=some v):EVf (EV cfg) f args=some v:=by
 unfold EVf;cases hx:yF cfg look fs m d (.f f) args []with
 |none=>rw[hx]at h;cases h
 |some r=>rw[hx]at h;rw[qsb cfg hl hfs m d _ _ _ _ hx];simp only[qcP]at h;exact h
end
def qfL:List AV->AH->Option (AV×AH)
 |[.str a,.str b],H=>some (.int .i64 (if a==b then 0 else if Op.bytesLess a b then -1 else 1),H)
 |_,_=>none
end Go.Av
end
noncomputable section
namespace Go.Proofs.YtafdkafbgohigaaGreat
open Go.Av
def zro0:List AV:=[.int .u64 0,.int .u64 0,.int .u32 0,.int .u8 0,.int .u8 0,.int .u8 0,.int .u8 0,.nilF,.nilP,.int .i32 0,.int .i32 0]
def qn2:BT TI:=.node 133 ⟨.func,1,8,[.nilF],false⟩ (.node 69 ⟨.struct [(0,51)],1,24,[.nilS],false⟩ (.node 35 ⟨.func,1,8,[.nilF],false⟩ (.node 19 ⟨.struct [(0,17)],1,8,[.nilP],false⟩ (.node 9 ⟨.str,1,16,[.str []],false⟩ (.node 4 ⟨.bool,1,1,[.bool false],false⟩ (.node 2 ⟨.int .i64,1,8,[.int .i64 0],false⟩ (.node 1 ⟨.func,1,8,[.nilF],false⟩ .leaf .leaf) (.node 3 ⟨.int .i64,1,8,[.int .i64 0],false⟩ .leaf .leaf)) (.node 6 ⟨.int .u8,1,1,[.int .u8 0],false⟩ (.node 5 ⟨.int .u8,1,1,[.int .u8 0],false⟩ .leaf .leaf) (.node 7 ⟨.struct [(0,2),(1,3),(2,4),(3,6)],4,24,[.int .i64 0,.int .i64 0,.bool false,.int .u8 0],true⟩ .leaf .leaf))) (.node 16 ⟨.ptr 289,1,8,[.nilP],false⟩ (.node 13 ⟨.struct [(0,9),(1,12)],2,24,[.str [],.int .u64 0],false⟩ (.node 12 ⟨.int .u64,1,8,[.int .u64 0],false⟩ .leaf .leaf) (.node 15 ⟨.ptr 286,1,8,[.nilP],false⟩ .leaf .leaf)) (.node 18 ⟨.struct [(0,17)],1,8,[.nilP],false⟩ (.node 17 ⟨.ptr 298,1,8,[.nilP],false⟩ .leaf .leaf) .leaf))) (.node 27 ⟨.func,1,8,[.nilF],false⟩ (.node 23 ⟨.slice 25,1,24,[.nilS],false⟩ (.node 21 ⟨.int .i32,1,4,[.int .i32 0],false⟩ (.node 20 ⟨.iface,1,16,[.nilI],false⟩ .leaf .leaf) (.node 22 ⟨.slice 29,1,24,[.nilS],false⟩ .leaf .leaf)) (.node 25 ⟨.struct [(0,3),(1,3),(2,9),(3,23)],4,56,[.int .i64 0,.int .i64 0,.str [],.nilS],false⟩ (.node 24 ⟨.struct [(0,3),(1,3),(2,9),(3,23)],4,56,[.int .i64 0,.int .i64 0,.str [],.nilS],false⟩ .leaf .leaf) (.node 26 ⟨.func,1,8,[.nilF],false⟩ .leaf .leaf))) (.node 31 ⟨.func,1,8,[.nilF],false⟩ (.node 29 ⟨.struct [(0,3),(1,3),(2,3),(3,25)],7,80,[.int .i64 0,.int .i64 0,.int .i64 0,.int .i64 0,.int .i64 0,.str [],.nilS],false⟩ (.node 28 ⟨.struct [(0,3),(1,3),(2,3),(3,25)],7,80,[.int .i64 0,.int .i64 0,.int .i64 0,.int .i64 0,.int .i64 0,.str [],.nilS],false⟩ .leaf .leaf) (.node 30 ⟨.func,1,8,[.nilF],false⟩ .leaf .leaf)) (.node 34 ⟨.func,1,8,[.nilF],false⟩ (.node 32 ⟨.int .i64,1,8,[.int .i64 0],false⟩ .leaf .leaf) .leaf)))) (.node 52 ⟨.slice 67,1,24,[.nilS],false⟩ (.node 44 ⟨.func,1,8,[.nilF],false⟩ (.node 39 ⟨.func,1,8,[.nilF],false⟩ (.node 37 ⟨.func,1,8,[.nilF],false⟩ (.node 36 ⟨.func,1,8,[.nilF],false⟩ .leaf .leaf) (.node 38 ⟨.func,1,8,[.nilF],false⟩ .leaf .leaf)) (.node 41 ⟨.func,1,8,[.nilF],false⟩ (.node 40 ⟨.slice 3,1,24,[.nilS],false⟩ .leaf .leaf) (.node 43 ⟨.func,1,8,[.nilF],false⟩ .leaf .leaf))) (.node 49 ⟨.func,1,8,[.nilF],false⟩ (.node 46 ⟨.func,1,8,[.nilF],false⟩ (.node 45 ⟨.func,1,8,[.nilF],false⟩ .leaf .leaf) (.node 47 ⟨.func,1,8,[.nilF],false⟩ .leaf .leaf)) (.node 51 ⟨.slice 9,1,24,[.nilS],false⟩ (.node 50 ⟨.func,1,8,[.nilF],false⟩ .leaf .leaf) .leaf))) (.node 61 ⟨.ptr 74,1,8,[.nilP],false⟩ (.node 57 ⟨.func,1,8,[.nilF],false⟩ (.node 54 ⟨.ptr 126,1,8,[.nilP],false⟩ (.node 53 ⟨.func,1,8,[.nilF],false⟩ .leaf .leaf) (.node 55 ⟨.ptr 70,1,8,[.nilP],false⟩ .leaf .leaf)) (.node 60 ⟨.func,1,8,[.nilF],false⟩ (.node 58 ⟨.ptr 120,1,8,[.nilP],false⟩ .leaf .leaf) .leaf)) (.node 66 ⟨.struct [(0,65),(1,25),(5,3)],6,88,[.nilS,.int .i64 0,.int .i64 0,.str [],.nilS,.int .i64 0],false⟩ (.node 64 ⟨.func,1,8,[.nilF],false⟩ (.node 63 ⟨.func,1,8,[.nilF],false⟩ .leaf .leaf) (.node 65 ⟨.slice 118,1,24,[.nilS],false⟩ .leaf .leaf)) (.node 68 ⟨.func,1,8,[.nilF],false⟩ (.node 67 ⟨.struct [(0,65),(1,25),(5,3)],6,88,[.nilS,.int .i64 0,.int .i64 0,.str [],.nilS,.int .i64 0],false⟩ .leaf .leaf) .leaf))))) (.node 99 ⟨.slice 106,1,24,[.nilS],false⟩ (.node 85 ⟨.map 3 25,1,8,[.nilM],false⟩ (.node 78 ⟨.func,1,8,[.nilF],false⟩ (.node 73 ⟨.struct [(0,55),(1,25),(5,22),(6,3)],7,96,[.nilP,.int .i64 0,.int .i64 0,.str [],.nilS,.nilS,.int .i64 0],false⟩ (.node 71 ⟨.func,1,8,[.nilF],false⟩ (.node 70 ⟨.struct [(0,51)],1,24,[.nilS],false⟩ .leaf .leaf) (.node 72 ⟨.func,1,8,[.nilF],false⟩ .leaf .leaf)) (.node 75 ⟨.func,1,8,[.nilF],false⟩ (.node 74 ⟨.struct [(0,55),(1,25),(5,22),(6,3)],7,96,[.nilP,.int .i64 0,.int .i64 0,.str [],.nilS,.nilS,.int .i64 0],false⟩ .leaf .leaf) (.node 76 ⟨.func,1,8,[.nilF],false⟩ .leaf .leaf))) (.node 82 ⟨.func,1,8,[.nilF],false⟩ (.node 80 ⟨.func,1,8,[.nilF],false⟩ (.node 79 ⟨.func,1,8,[.nilF],false⟩ .leaf .leaf) (.node 81 ⟨.func,1,8,[.nilF],false⟩ .leaf .leaf)) (.node 84 ⟨.ptr 87,1,8,[.nilP],false⟩ (.node 83 ⟨.func,1,8,[.nilF],false⟩ .leaf .leaf) .leaf))) (.node 92 ⟨.ptr 95,1,8,[.nilP],false⟩ (.node 89 ⟨.func,1,8,[.nilF],false⟩ (.node 87 ⟨.struct [(0,25),(4,3),(5,23),(6,23),(7,85),(8,4)],9,128,[.int .i64 0,.int .i64 0,.str [],.nilS,.int .i64 0,.nilS,.nilS,.nilM,.bool false],false⟩ (.node 86 ⟨.struct [(0,25),(4,3),(5,23),(6,23),(7,85),(8,4)],9,128,[.int .i64 0,.int .i64 0,.str [],.nilS,.int .i64 0,.nilS,.nilS,.nilM,.bool false],false⟩ .leaf .leaf) (.node 88 ⟨.int .i64,1,8,[.int .i64 0],false⟩ .leaf .leaf)) (.node 91 ⟨.func,1,8,[.nilF],false⟩ (.node 90 ⟨.func,1,8,[.nilF],false⟩ .leaf .leaf) .leaf)) (.node 96 ⟨.func,1,8,[.nilF],false⟩ (.node 94 ⟨.struct [(0,25),(4,3),(5,23),(6,23),(7,93),(8,4)],9,144,[.int .i64 0,.int .i64 0,.str [],.nilS,.int .i64 0,.nilS,.nilS,.nilS,.bool false],false⟩ (.node 93 ⟨.slice 188,1,24,[.nilS],false⟩ .leaf .leaf) (.node 95 ⟨.struct [(0,25),(4,3),(5,23),(6,23),(7,93),(8,4)],9,144,[.int .i64 0,.int .i64 0,.str [],.nilS,.int .i64 0,.nilS,.nilS,.nilS,.bool false],false⟩ .leaf .leaf)) (.node 98 ⟨.func,1,8,[.nilF],false⟩ (.node 97 ⟨.func,1,8,[.nilF],false⟩ .leaf .leaf) .leaf)))) (.node 118 ⟨.int .u64,1,8,[.int .u64 0],false⟩ (.node 108 ⟨.func,1,8,[.nilF],false⟩ (.node 104 ⟨.struct [(0,22)],1,24,[.nilS],false⟩ (.node 102 ⟨.ptr 104,1,8,[.nilP],false⟩ (.node 101 ⟨.func,1,8,[.nilF],false⟩ .leaf .leaf) (.node 103 ⟨.struct [(0,22)],1,24,[.nilS],false⟩ .leaf .leaf)) (.node 106 ⟨.struct [(0,25),(4,23),(5,23)],6,104,[.int .i64 0,.int .i64 0,.str [],.nilS,.nilS,.nilS],false⟩ (.node 105 ⟨.struct [(0,25),(4,23),(5,23)],6,104,[.int .i64 0,.int .i64 0,.str [],.nilS,.nilS,.nilS],false⟩ .leaf .leaf) (.node 107 ⟨.func,1,8,[.nilF],false⟩ .leaf .leaf))) (.node 113 ⟨.func,1,8,[.nilF],false⟩ (.node 110 ⟨.func,1,8,[.nilF],false⟩ (.node 109 ⟨.func,1,8,[.nilF],false⟩ .leaf .leaf) (.node 112 ⟨.func,1,8,[.nilF],false⟩ .leaf .leaf)) (.node 117 ⟨.func,1,8,[.nilF],false⟩ (.node 115 ⟨.func,1,8,[.nilF],false⟩ .leaf .leaf) .leaf))) (.node 125 ⟨.struct [(0,124),(1,51),(2,3)],3,40,[.nilM,.nilS,.int .i64 0],false⟩ (.node 122 ⟨.func,1,8,[.nilF],false⟩ (.node 120 ⟨.struct [(0,54),(1,25),(5,22),(6,3)],7,96,[.nilP,.int .i64 0,.int .i64 0,.str [],.nilS,.nilS,.int .i64 0],false⟩ (.node 119 ⟨.struct [(0,54),(1,25),(5,22),(6,3)],7,96,[.nilP,.int .i64 0,.int .i64 0,.str [],.nilS,.nilS,.int .i64 0],false⟩ .leaf .leaf) (.node 121 ⟨.func,1,8,[.nilF],false⟩ .leaf .leaf)) (.node 124 ⟨.map 9 3,1,8,[.nilM],false⟩ (.node 123 ⟨.func,1,8,[.nilF],false⟩ .leaf .leaf) .leaf)) (.node 129 ⟨.func,1,8,[.nilF],false⟩ (.node 127 ⟨.func,1,8,[.nilF],false⟩ (.node 126 ⟨.struct [(0,124),(1,51),(2,3)],3,40,[.nilM,.nilS,.int .i64 0],false⟩ .leaf .leaf) (.node 128 ⟨.func,1,8,[.nilF],false⟩ .leaf .leaf)) (.node 131 ⟨.func,1,8,[.nilF],false⟩ (.node 130 ⟨.func,1,8,[.nilF],false⟩ .leaf .leaf) .leaf)))))) (.node 217 ⟨.struct [(0,55),(1,65),(2,3),(3,4)],4,48,[.nilP,.nilS,.int .i64 0,.bool false],false⟩ (.node 167 ⟨.func,1,8,[.nilF],false⟩ (.node 151 ⟨.func,1,8,[.nilF],false⟩ (.node 141 ⟨.array 21 140,21,168,[.nilF,.nilF,.nilF,.nilF,.nilF,.nilF,.nilF,.nilF,.nilF,.nilF,.nilF,.nilF,.nilF,.nilF,.nilF,.nilF,.nilF,.nilF,.nilF,.nilF,.nilF],false⟩ (.node 137 ⟨.map 118 25,1,8,[.nilM],false⟩ (.node 135 ⟨.ptr 139,1,8,[.nilP],false⟩ (.node 134 ⟨.func,1,8,[.nilF],false⟩ .leaf .leaf) (.node 136 ⟨.map 3 118,1,8,[.nilM],false⟩ .leaf .leaf)) (.node 139 ⟨.struct [(0,58),(1,65),(2,3),(3,65),(4,23),(5,136),(6,137),(7,4),(8,4),(9,25),(13,3)],14,176,[.nilP,.nilS,.int .i64 0,.nilS,.nilS,.nilM,.nilM,.bool false,.bool false,.int .i64 0,.int .i64 0,.str [],.nilS,.int .i64 0],false⟩ (.node 138 ⟨.struct [(0,58),(1,65),(2,3),(3,65),(4,23),(5,136),(6,137),(7,4),(8,4),(9,25),(13,3)],14,176,[.nilP,.nilS,.int .i64 0,.nilS,.nilS,.nilM,.nilM,.bool false,.bool false,.int .i64 0,.int .i64 0,.str [],.nilS,.int .i64 0],false⟩ .leaf .leaf) (.node 140 ⟨.func,1,8,[.nilF],false⟩ .leaf .leaf))) (.node 147 ⟨.func,1,8,[.nilF],false⟩ (.node 143 ⟨.func,1,8,[.nilF],false⟩ (.node 142 ⟨.func,1,8,[.nilF],false⟩ .leaf .leaf) (.node 145 ⟨.func,1,8,[.nilF],false⟩ .leaf .leaf)) (.node 149 ⟨.func,1,8,[.nilF],false⟩ (.node 148 ⟨.func,1,8,[.nilF],false⟩ .leaf .leaf) .leaf))) (.node 160 ⟨.struct [(0,54),(1,65),(2,3),(3,4)],4,48,[.nilP,.nilS,.int .i64 0,.bool false],false⟩ (.node 155 ⟨.func,1,8,[.nilF],false⟩ (.node 153 ⟨.func,1,8,[.nilF],false⟩ (.node 152 ⟨.func,1,8,[.nilF],false⟩ .leaf .leaf) (.node 154 ⟨.func,1,8,[.nilF],false⟩ .leaf .leaf)) (.node 158 ⟨.func,1,8,[.nilF],false⟩ (.node 157 ⟨.func,1,8,[.nilF],false⟩ .leaf .leaf) (.node 159 ⟨.ptr 161,1,8,[.nilP],false⟩ .leaf .leaf))) (.node 164 ⟨.func,1,8,[.nilF],false⟩ (.node 162 ⟨.func,1,8,[.nilF],false⟩ (.node 161 ⟨.struct [(0,54),(1,65),(2,3),(3,4)],4,48,[.nilP,.nilS,.int .i64 0,.bool false],false⟩ .leaf .leaf) (.node 163 ⟨.func,1,8,[.nilF],false⟩ .leaf .leaf)) (.node 166 ⟨.func,1,8,[.nilF],false⟩ (.node 165 ⟨.func,1,8,[.nilF],false⟩ .leaf .leaf) .leaf)))) (.node 188 ⟨.struct [(0,3),(1,25)],5,64,[.int .i64 0,.int .i64 0,.int .i64 0,.str [],.nilS],false⟩ (.node 178 ⟨.func,1,8,[.nilF],false⟩ (.node 173 ⟨.func,1,8,[.nilF],false⟩ (.node 169 ⟨.ptr 4,1,8,[.nilP],false⟩ (.node 168 ⟨.func,1,8,[.nilF],false⟩ .leaf .leaf) (.node 171 ⟨.func,1,8,[.nilF],false⟩ .leaf .leaf)) (.node 175 ⟨.func,1,8,[.nilF],false⟩ (.node 174 ⟨.func,1,8,[.nilF],false⟩ .leaf .leaf) (.node 176 ⟨.int .u64,1,8,[.int .u64 0],false⟩ .leaf .leaf))) (.node 182 ⟨.func,1,8,[.nilF],false⟩ (.node 180 ⟨.func,1,8,[.nilF],false⟩ (.node 179 ⟨.func,1,8,[.nilF],false⟩ .leaf .leaf) (.node 181 ⟨.func,1,8,[.nilF],false⟩ .leaf .leaf)) (.node 187 ⟨.struct [(0,3),(1,25)],5,64,[.int .i64 0,.int .i64 0,.int .i64 0,.str [],.nilS],false⟩ (.node 184 ⟨.func,1,8,[.nilF],false⟩ .leaf .leaf) .leaf))) (.node 204 ⟨.struct [(0,25),(4,93),(5,3)],6,88,[.int .i64 0,.int .i64 0,.str [],.nilS,.nilS,.int .i64 0],false⟩ (.node 194 ⟨.slice 5,1,24,[.nilS],false⟩ (.node 191 ⟨.func,1,8,[.nilF],false⟩ (.node 189 ⟨.func,1,8,[.nilF],false⟩ .leaf .leaf) (.node 193 ⟨.func,1,8,[.nilF],false⟩ .leaf .leaf)) (.node 203 ⟨.func,1,8,[.nilF],false⟩ (.node 195 ⟨.map 3 4,1,8,[.nilM],false⟩ .leaf .leaf) .leaf)) (.node 213 ⟨.struct [(0,55),(1,65)],2,32,[.nilP,.nilS],false⟩ (.node 211 ⟨.ptr 213,1,8,[.nilP],false⟩ (.node 205 ⟨.struct [(0,25),(4,93),(5,3)],6,88,[.int .i64 0,.int .i64 0,.str [],.nilS,.nilS,.int .i64 0],false⟩ .leaf .leaf) (.node 212 ⟨.struct [(0,55),(1,65)],2,32,[.nilP,.nilS],false⟩ .leaf .leaf)) (.node 216 ⟨.struct [(0,55),(1,65),(2,3),(3,4)],4,48,[.nilP,.nilS,.int .i64 0,.bool false],false⟩ (.node 215 ⟨.ptr 217,1,8,[.nilP],false⟩ .leaf .leaf) .leaf))))) (.node 261 ⟨.ptr 248,1,8,[.nilP],false⟩ (.node 239 ⟨.func,1,8,[.nilF],false⟩ (.node 232 ⟨.struct [(0,25),(4,25)],8,112,[.int .i64 0,.int .i64 0,.str [],.nilS,.int .i64 0,.int .i64 0,.str [],.nilS],false⟩ (.node 226 ⟨.func,1,8,[.nilF],false⟩ (.node 224 ⟨.func,1,8,[.nilF],false⟩ (.node 219 ⟨.array 2 23,2,48,[.nilS,.nilS],false⟩ .leaf .leaf) (.node 225 ⟨.func,1,8,[.nilF],false⟩ .leaf .leaf)) (.node 230 ⟨.func,1,8,[.nilF],false⟩ (.node 227 ⟨.func,1,8,[.nilF],false⟩ .leaf .leaf) (.node 231 ⟨.struct [(0,25),(4,25)],8,112,[.int .i64 0,.int .i64 0,.str [],.nilS,.int .i64 0,.int .i64 0,.str [],.nilS],false⟩ .leaf .leaf))) (.node 236 ⟨.struct [(0,205),(6,4)],7,96,[.int .i64 0,.int .i64 0,.str [],.nilS,.nilS,.int .i64 0,.bool false],false⟩ (.node 234 ⟨.ptr 236,1,8,[.nilP],false⟩ (.node 233 ⟨.slice 232,1,24,[.nilS],false⟩ .leaf .leaf) (.node 235 ⟨.struct [(0,205),(6,4)],7,96,[.int .i64 0,.int .i64 0,.str [],.nilS,.nilS,.int .i64 0,.bool false],false⟩ .leaf .leaf)) (.node 238 ⟨.func,1,8,[.nilF],false⟩ (.node 237 ⟨.func,1,8,[.nilF],false⟩ .leaf .leaf) .leaf))) (.node 248 ⟨.struct [(0,118),(1,118)],2,16,[.int .u64 0,.int .u64 0],true⟩ (.node 244 ⟨.func,1,8,[.nilF],false⟩ (.node 241 ⟨.func,1,8,[.nilF],false⟩ (.node 240 ⟨.func,1,8,[.nilF],false⟩ .leaf .leaf) (.node 243 ⟨.func,1,8,[.nilF],false⟩ .leaf .leaf)) (.node 247 ⟨.struct [(0,118),(1,118)],2,16,[.int .u64 0,.int .u64 0],true⟩ (.node 246 ⟨.func,1,8,[.nilF],false⟩ .leaf .leaf) .leaf)) (.node 252 ⟨.func,1,8,[.nilF],false⟩ (.node 250 ⟨.func,1,8,[.nilF],false⟩ (.node 249 ⟨.func,1,8,[.nilF],false⟩ .leaf .leaf) (.node 251 ⟨.func,1,8,[.nilF],false⟩ .leaf .leaf)) (.node 256 ⟨.ptr 272,1,8,[.nilP],false⟩ (.node 253 ⟨.func,1,8,[.nilF],false⟩ .leaf .leaf) .leaf)))) (.node 280 ⟨.func,1,8,[.nilF],false⟩ (.node 271 ⟨.struct [(0,248),(2,270)],402,5616,[.int .u64 0,.int .u64 0,.int .i64 0,.int .i64 0,.str [],.nilS,.int .i64 0,.int .i64 0,.str [],.nilS,.int .i64 0,.int .i64 0,.str [],.nilS,.int .i64 0,.int .i64 0,.str [],.nilS,.int .i64 0,.int .i64 0,.str [],.nilS,.int .i64 0,.int .i64 0,.str [],.nilS,.int .i64 0,.int .i64 0,.str [],.nilS,.int .i64 0,.int .i64 0,.str [],.nilS,.int .i64 0,.int .i64 0,.str [],.nilS,.int .i64 0,.int .i64 0,.str [],.nilS,.int .i64 0,.int .i64 0,.str [],.nilS,.int .i64 0,.int .i64 0,.str [],.nilS,.int .i64 0,.int .i64 0,.str [],.nilS,.int .i64 0,.int .i64 0,.str [],.nilS,.int .i64 0,.int .i64 0,.str [],.nilS,.int .i64 0,.int .i64 0,.str [],.nilS,.int .i64 0,.int .i64 0,.str [],.nilS,.int .i64 0,.int .i64 0,.str [],.nilS,.int .i64 0,.int .i64 0,.str [],.nilS,.int .i64 0,.int .i64 0,.str [],.nilS,.int .i64 0,.int .i64 0,.str [],.nilS,.int .i64 0,.int .i64 0,.str [],.nilS,.int .i64 0,.int .i64 0,.str [],.nilS,.int .i64 0,.int .i64 0,.str [],.nilS,.int .i64 0,.int .i64 0,.str [],.nilS,.int .i64 0,.int .i64 0,.str [],.nilS,.int .i64 0,.int .i64 0,.str [],.nilS,.int .i64 0,.int .i64 0,.str [],.nilS,.int .i64 0,.int .i64 0,.str [],.nilS,.int .i64 0,.int .i64 0,.str [],.nilS,.int .i64 0,.int .i64 0,.str [],.nilS,.int .i64 0,.int .i64 0,.str [],.nilS,.int .i64 0,.int .i64 0,.str [],.nilS,.int .i64 0,.int .i64 0,.str [],.nilS,.int .i64 0,.int .i64 0,.str [],.nilS,.int .i64 0,.int .i64 0,.str [],.nilS,.int .i64 0,.int .i64 0,.str [],.nilS,.int .i64 0,.int .i64 0,.str [],.nilS,.int .i64 0,.int .i64 0,.str [],.nilS,.int .i64 0,.int .i64 0,.str [],.nilS,.int .i64 0,.int .i64 0,.str [],.nilS,.int .i64 0,.int .i64 0,.str [],.nilS,.int .i64 0,.int .i64 0,.str [],.nilS,.int .i64 0,.int .i64 0,.str [],.nilS,.int .i64 0,.int .i64 0,.str [],.nilS,.int .i64 0,.int .i64 0,.str [],.nilS,.int .i64 0,.int .i64 0,.str [],.nilS,.int .i64 0,.int .i64 0,.str [],.nilS,.int .i64 0,.int .i64 0,.str [],.nilS,.int .i64 0,.int .i64 0,.str [],.nilS,.int .i64 0,.int .i64 0,.str [],.nilS,.int .i64 0,.int .i64 0,.str [],.nilS,.int .i64 0,.int .i64 0,.str [],.nilS,.int .i64 0,.int .i64 0,.str [],.nilS,.int .i64 0,.int .i64 0,.str [],.nilS,.int .i64 0,.int .i64 0,.str [],.nilS,.int .i64 0,.int .i64 0,.str [],.nilS,.int .i64 0,.int .i64 0,.str [],.nilS,.int .i64 0,.int .i64 0,.str [],.nilS,.int .i64 0,.int .i64 0,.str [],.nilS,.int .i64 0,.int .i64 0,.str [],.nilS,.int .i64 0,.int .i64 0,.str [],.nilS,.int .i64 0,.int .i64 0,.str [],.nilS,.int .i64 0,.int .i64 0,.str [],.nilS,.int .i64 0,.int .i64 0,.str [],.nilS,.int .i64 0,.int .i64 0,.str [],.nilS,.int .i64 0,.int .i64 0,.str [],.nilS,.int .i64 0,.int .i64 0,.str [],.nilS,.int .i64 0,.int .i64 0,.str [],.nilS,.int .i64 0,.int .i64 0,.str [],.nilS,.int .i64 0,.int .i64 0,.str [],.nilS,.int .i64 0,.int .i64 0,.str [],.nilS,.int .i64 0,.int .i64 0,.str [],.nilS,.int .i64 0,.int .i64 0,.str [],.nilS,.int .i64 0,.int .i64 0,.str [],.nilS,.int .i64 0,.int .i64 0,.str [],.nilS,.int .i64 0,.int .i64 0,.str [],.nilS,.int .i64 0,.int .i64 0,.str [],.nilS,.int .i64 0,.int .i64 0,.str [],.nilS,.int .i64 0,.int .i64 0,.str [],.nilS,.int .i64 0,.int .i64 0,.str [],.nilS,.int .i64 0,.int .i64 0,.str [],.nilS,.int .i64 0,.int .i64 0,.str [],.nilS,.int .i64 0,.int .i64 0,.str [],.nilS,.int .i64 0,.int .i64 0,.str [],.nilS,.int .i64 0,.int .i64 0,.str [],.nilS,.int .i64 0,.int .i64 0,.str [],.nilS,.int .i64 0,.int .i64 0,.str [],.nilS,.int .i64 0,.int .i64 0,.str [],.nilS,.int .i64 0,.int .i64 0,.str [],.nilS,.int .i64 0,.int .i64 0,.str [],.nilS,.int .i64 0,.int .i64 0,.str [],.nilS,.int .i64 0,.int .i64 0,.str [],.nilS,.int .i64 0,.int .i64 0,.str [],.nilS,.int .i64 0,.int .i64 0,.str [],.nilS,.int .i64 0,.int .i64 0,.str [],.nilS,.int .i64 0,.int .i64 0,.str [],.nilS,.int .i64 0,.int .i64 0,.str [],.nilS,.int .i64 0,.int .i64 0,.str [],.nilS,.int .i64 0,.int .i64 0,.str [],.nilS],false⟩ (.node 267 ⟨.func,1,8,[.nilF],false⟩ (.node 265 ⟨.func,1,8,[.nilF],false⟩ (.node 263 ⟨.func,1,8,[.nilF],false⟩ .leaf .leaf) (.node 266 ⟨.func,1,8,[.nilF],false⟩ .leaf .leaf)) (.node 269 ⟨.func,1,8,[.nilF],false⟩ (.node 268 ⟨.func,1,8,[.nilF],false⟩ .leaf .leaf) (.node 270 ⟨.array 100 25,400,5600,[.int .i64 0,.int .i64 0,.str [],.nilS,.int .i64 0,.int .i64 0,.str [],.nilS,.int .i64 0,.int .i64 0,.str [],.nilS,.int .i64 0,.int .i64 0,.str [],.nilS,.int .i64 0,.int .i64 0,.str [],.nilS,.int .i64 0,.int .i64 0,.str [],.nilS,.int .i64 0,.int .i64 0,.str [],.nilS,.int .i64 0,.int .i64 0,.str [],.nilS,.int .i64 0,.int .i64 0,.str [],.nilS,.int .i64 0,.int .i64 0,.str [],.nilS,.int .i64 0,.int .i64 0,.str [],.nilS,.int .i64 0,.int .i64 0,.str [],.nilS,.int .i64 0,.int .i64 0,.str [],.nilS,.int .i64 0,.int .i64 0,.str [],.nilS,.int .i64 0,.int .i64 0,.str [],.nilS,.int .i64 0,.int .i64 0,.str [],.nilS,.int .i64 0,.int .i64 0,.str [],.nilS,.int .i64 0,.int .i64 0,.str [],.nilS,.int .i64 0,.int .i64 0,.str [],.nilS,.int .i64 0,.int .i64 0,.str [],.nilS,.int .i64 0,.int .i64 0,.str [],.nilS,.int .i64 0,.int .i64 0,.str [],.nilS,.int .i64 0,.int .i64 0,.str [],.nilS,.int .i64 0,.int .i64 0,.str [],.nilS,.int .i64 0,.int .i64 0,.str [],.nilS,.int .i64 0,.int .i64 0,.str [],.nilS,.int .i64 0,.int .i64 0,.str [],.nilS,.int .i64 0,.int .i64 0,.str [],.nilS,.int .i64 0,.int .i64 0,.str [],.nilS,.int .i64 0,.int .i64 0,.str [],.nilS,.int .i64 0,.int .i64 0,.str [],.nilS,.int .i64 0,.int .i64 0,.str [],.nilS,.int .i64 0,.int .i64 0,.str [],.nilS,.int .i64 0,.int .i64 0,.str [],.nilS,.int .i64 0,.int .i64 0,.str [],.nilS,.int .i64 0,.int .i64 0,.str [],.nilS,.int .i64 0,.int .i64 0,.str [],.nilS,.int .i64 0,.int .i64 0,.str [],.nilS,.int .i64 0,.int .i64 0,.str [],.nilS,.int .i64 0,.int .i64 0,.str [],.nilS,.int .i64 0,.int .i64 0,.str [],.nilS,.int .i64 0,.int .i64 0,.str [],.nilS,.int .i64 0,.int .i64 0,.str [],.nilS,.int .i64 0,.int .i64 0,.str [],.nilS,.int .i64 0,.int .i64 0,.str [],.nilS,.int .i64 0,.int .i64 0,.str [],.nilS,.int .i64 0,.int .i64 0,.str [],.nilS,.int .i64 0,.int .i64 0,.str [],.nilS,.int .i64 0,.int .i64 0,.str [],.nilS,.int .i64 0,.int .i64 0,.str [],.nilS,.int .i64 0,.int .i64 0,.str [],.nilS,.int .i64 0,.int .i64 0,.str [],.nilS,.int .i64 0,.int .i64 0,.str [],.nilS,.int .i64 0,.int .i64 0,.str [],.nilS,.int .i64 0,.int .i64 0,.str [],.nilS,.int .i64 0,.int .i64 0,.str [],.nilS,.int .i64 0,.int .i64 0,.str [],.nilS,.int .i64 0,.int .i64 0,.str [],.nilS,.int .i64 0,.int .i64 0,.str [],.nilS,.int .i64 0,.int .i64 0,.str [],.nilS,.int .i64 0,.int .i64 0,.str [],.nilS,.int .i64 0,.int .i64 0,.str [],.nilS,.int .i64 0,.int .i64 0,.str [],.nilS,.int .i64 0,.int .i64 0,.str [],.nilS,.int .i64 0,.int .i64 0,.str [],.nilS,.int .i64 0,.int .i64 0,.str [],.nilS,.int .i64 0,.int .i64 0,.str [],.nilS,.int .i64 0,.int .i64 0,.str [],.nilS,.int .i64 0,.int .i64 0,.str [],.nilS,.int .i64 0,.int .i64 0,.str [],.nilS,.int .i64 0,.int .i64 0,.str [],.nilS,.int .i64 0,.int .i64 0,.str [],.nilS,.int .i64 0,.int .i64 0,.str [],.nilS,.int .i64 0,.int .i64 0,.str [],.nilS,.int .i64 0,.int .i64 0,.str [],.nilS,.int .i64 0,.int .i64 0,.str [],.nilS,.int .i64 0,.int .i64 0,.str [],.nilS,.int .i64 0,.int .i64 0,.str [],.nilS,.int .i64 0,.int .i64 0,.str [],.nilS,.int .i64 0,.int .i64 0,.str [],.nilS,.int .i64 0,.int .i64 0,.str [],.nilS,.int .i64 0,.int .i64 0,.str [],.nilS,.int .i64 0,.int .i64 0,.str [],.nilS,.int .i64 0,.int .i64 0,.str [],.nilS,.int .i64 0,.int .i64 0,.str [],.nilS,.int .i64 0,.int .i64 0,.str [],.nilS,.int .i64 0,.int .i64 0,.str [],.nilS,.int .i64 0,.int .i64 0,.str [],.nilS,.int .i64 0,.int .i64 0,.str [],.nilS,.int .i64 0,.int .i64 0,.str [],.nilS,.int .i64 0,.int .i64 0,.str [],.nilS,.int .i64 0,.int .i64 0,.str [],.nilS,.int .i64 0,.int .i64 0,.str [],.nilS,.int .i64 0,.int .i64 0,.str [],.nilS,.int .i64 0,.int .i64 0,.str [],.nilS,.int .i64 0,.int .i64 0,.str [],.nilS,.int .i64 0,.int .i64 0,.str [],.nilS,.int .i64 0,.int .i64 0,.str [],.nilS,.int .i64 0,.int .i64 0,.str [],.nilS,.int .i64 0,.int .i64 0,.str [],.nilS],false⟩ .leaf .leaf))) (.node 277 ⟨.func,1,8,[.nilF],false⟩ (.node 274 ⟨.ptr 25,1,8,[.nilP],false⟩ (.node 272 ⟨.struct [(0,248),(2,270)],402,5616,[.int .u64 0,.int .u64 0,.int .i64 0,.int .i64 0,.str [],.nilS,.int .i64 0,.int .i64 0,.str [],.nilS,.int .i64 0,.int .i64 0,.str [],.nilS,.int .i64 0,.int .i64 0,.str [],.nilS,.int .i64 0,.int .i64 0,.str [],.nilS,.int .i64 0,.int .i64 0,.str [],.nilS,.int .i64 0,.int .i64 0,.str [],.nilS,.int .i64 0,.int .i64 0,.str [],.nilS,.int .i64 0,.int .i64 0,.str [],.nilS,.int .i64 0,.int .i64 0,.str [],.nilS,.int .i64 0,.int .i64 0,.str [],.nilS,.int .i64 0,.int .i64 0,.str [],.nilS,.int .i64 0,.int .i64 0,.str [],.nilS,.int .i64 0,.int .i64 0,.str [],.nilS,.int .i64 0,.int .i64 0,.str [],.nilS,.int .i64 0,.int .i64 0,.str [],.nilS,.int .i64 0,.int .i64 0,.str [],.nilS,.int .i64 0,.int .i64 0,.str [],.nilS,.int .i64 0,.int .i64 0,.str [],.nilS,.int .i64 0,.int .i64 0,.str [],.nilS,.int .i64 0,.int .i64 0,.str [],.nilS,.int .i64 0,.int .i64 0,.str [],.nilS,.int .i64 0,.int .i64 0,.str [],.nilS,.int .i64 0,.int .i64 0,.str [],.nilS,.int .i64 0,.int .i64 0,.str [],.nilS,.int .i64 0,.int .i64 0,.str [],.nilS,.int .i64 0,.int .i64 0,.str [],.nilS,.int .i64 0,.int .i64 0,.str [],.nilS,.int .i64 0,.int .i64 0,.str [],.nilS,.int .i64 0,.int .i64 0,.str [],.nilS,.int .i64 0,.int .i64 0,.str [],.nilS,.int .i64 0,.int .i64 0,.str [],.nilS,.int .i64 0,.int .i64 0,.str [],.nilS,.int .i64 0,.int .i64 0,.str [],.nilS,.int .i64 0,.int .i64 0,.str [],.nilS,.int .i64 0,.int .i64 0,.str [],.nilS,.int .i64 0,.int .i64 0,.str [],.nilS,.int .i64 0,.int .i64 0,.str [],.nilS,.int .i64 0,.int .i64 0,.str [],.nilS,.int .i64 0,.int .i64 0,.str [],.nilS,.int .i64 0,.int .i64 0,.str [],.nilS,.int .i64 0,.int .i64 0,.str [],.nilS,.int .i64 0,.int .i64 0,.str [],.nilS,.int .i64 0,.int .i64 0,.str [],.nilS,.int .i64 0,.int .i64 0,.str [],.nilS,.int .i64 0,.int .i64 0,.str [],.nilS,.int .i64 0,.int .i64 0,.str [],.nilS,.int .i64 0,.int .i64 0,.str [],.nilS,.int .i64 0,.int .i64 0,.str [],.nilS,.int .i64 0,.int .i64 0,.str [],.nilS,.int .i64 0,.int .i64 0,.str [],.nilS,.int .i64 0,.int .i64 0,.str [],.nilS,.int .i64 0,.int .i64 0,.str [],.nilS,.int .i64 0,.int .i64 0,.str [],.nilS,.int .i64 0,.int .i64 0,.str [],.nilS,.int .i64 0,.int .i64 0,.str [],.nilS,.int .i64 0,.int .i64 0,.str [],.nilS,.int .i64 0,.int .i64 0,.str [],.nilS,.int .i64 0,.int .i64 0,.str [],.nilS,.int .i64 0,.int .i64 0,.str [],.nilS,.int .i64 0,.int .i64 0,.str [],.nilS,.int .i64 0,.int .i64 0,.str [],.nilS,.int .i64 0,.int .i64 0,.str [],.nilS,.int .i64 0,.int .i64 0,.str [],.nilS,.int .i64 0,.int .i64 0,.str [],.nilS,.int .i64 0,.int .i64 0,.str [],.nilS,.int .i64 0,.int .i64 0,.str [],.nilS,.int .i64 0,.int .i64 0,.str [],.nilS,.int .i64 0,.int .i64 0,.str [],.nilS,.int .i64 0,.int .i64 0,.str [],.nilS,.int .i64 0,.int .i64 0,.str [],.nilS,.int .i64 0,.int .i64 0,.str [],.nilS,.int .i64 0,.int .i64 0,.str [],.nilS,.int .i64 0,.int .i64 0,.str [],.nilS,.int .i64 0,.int .i64 0,.str [],.nilS,.int .i64 0,.int .i64 0,.str [],.nilS,.int .i64 0,.int .i64 0,.str [],.nilS,.int .i64 0,.int .i64 0,.str [],.nilS,.int .i64 0,.int .i64 0,.str [],.nilS,.int .i64 0,.int .i64 0,.str [],.nilS,.int .i64 0,.int .i64 0,.str [],.nilS,.int .i64 0,.int .i64 0,.str [],.nilS,.int .i64 0,.int .i64 0,.str [],.nilS,.int .i64 0,.int .i64 0,.str [],.nilS,.int .i64 0,.int .i64 0,.str [],.nilS,.int .i64 0,.int .i64 0,.str [],.nilS,.int .i64 0,.int .i64 0,.str [],.nilS,.int .i64 0,.int .i64 0,.str [],.nilS,.int .i64 0,.int .i64 0,.str [],.nilS,.int .i64 0,.int .i64 0,.str [],.nilS,.int .i64 0,.int .i64 0,.str [],.nilS,.int .i64 0,.int .i64 0,.str [],.nilS,.int .i64 0,.int .i64 0,.str [],.nilS,.int .i64 0,.int .i64 0,.str [],.nilS,.int .i64 0,.int .i64 0,.str [],.nilS,.int .i64 0,.int .i64 0,.str [],.nilS,.int .i64 0,.int .i64 0,.str [],.nilS,.int .i64 0,.int .i64 0,.str [],.nilS,.int .i64 0,.int .i64 0,.str [],.nilS,.int .i64 0,.int .i64 0,.str [],.nilS],false⟩ .leaf .leaf) (.node 276 ⟨.func,1,8,[.nilF],false⟩ .leaf .leaf)) (.node 279 ⟨.func,1,8,[.nilF],false⟩ (.node 278 ⟨.func,1,8,[.nilF],false⟩ .leaf .leaf) .leaf))) (.node 292 ⟨.int .u8,1,1,[.int .u8 0],false⟩ (.node 288 ⟨.struct [(0,287)],0,0,[],false⟩ (.node 285 ⟨.struct [(0,17),(1,17),(2,17),(3,9)],4,40,[.nilP,.nilP,.nilP,.str []],false⟩ (.node 281 ⟨.func,1,8,[.nilF],false⟩ .leaf .leaf) (.node 287 ⟨.array 0 16,0,0,[],false⟩ .leaf .leaf)) (.node 291 ⟨.int .u8,1,1,[.int .u8 0],false⟩ (.node 290 ⟨.int .u32,1,4,[.int .u32 0],false⟩ .leaf .leaf) .leaf)) (.node 296 ⟨.int .i32,1,4,[.int .i32 0],false⟩ (.node 294 ⟨.ptr 5,1,8,[.nilP],false⟩ (.node 293 ⟨.func,1,8,[.nilF],false⟩ .leaf .leaf) (.node 295 ⟨.int .i32,1,4,[.int .i32 0],false⟩ .leaf .leaf)) (.node 298 ⟨.struct [(0,12),(1,12),(2,290),(3,291),(4,5),(5,5),(6,292),(7,293),(8,294),(9,295),(10,296)],11,48,zro0,false⟩ (.node 297 ⟨.struct [(0,12),(1,12),(2,290),(3,291),(4,5),(5,5),(6,292),(7,293),(8,294),(9,295),(10,296)],11,48,zro0,false⟩ .leaf .leaf) .leaf))))))
def qyp:BT CMode:=.node 155 (.pfrz) (.node 78 (.pown) (.node 44 (.obj) (.node 17 (.scal) (.node 12 (.pfrz) (.node 8 (.scal) (.node 5 (.scal) .leaf .leaf) (.node 9 (.scal) .leaf .leaf)) (.node 16 (.scal) (.node 14 (.scal) .leaf .leaf) .leaf)) (.node 40 (.scal) (.node 25 (.pfrz) (.node 19 (.pfrz) .leaf .leaf) .leaf) (.node 43 (.obj) (.node 42 (.scal) .leaf .leaf) .leaf))) (.node 56 (.pfrz) (.node 53 (.pfrz) (.node 46 (.pfrz) (.node 45 (.pfrz) .leaf .leaf) (.node 52 (.scal) .leaf .leaf)) (.node 55 (.pfrz) (.node 54 (.pfrz) .leaf .leaf) .leaf)) (.node 62 (.scal) (.node 58 (.pfrz) (.node 57 (.obj) .leaf .leaf) .leaf) (.node 67 (.pfrz) (.node 63 (.obj) .leaf .leaf) .leaf)))) (.node 106 (.inpl) (.node 94 (.slf) (.node 91 (.obj) (.node 83 (.scal) (.node 81 (.pown) .leaf .leaf) (.node 90 (.obj) .leaf .leaf)) (.node 93 (.obj) (.node 92 (.obj) .leaf .leaf) .leaf)) (.node 103 (.pfrz) (.node 102 (.pfrz) (.node 101 (.pfrz) .leaf .leaf) .leaf) (.node 105 (.obj) (.node 104 (.obj) .leaf .leaf) .leaf))) (.node 133 (.scal) (.node 115 (.obj) (.node 113 (.scal) (.node 112 (.scal) .leaf .leaf) (.node 114 (.obj) .leaf .leaf)) (.node 130 (.pfrz) (.node 120 (.pfrz) .leaf .leaf) .leaf)) (.node 152 (.obj) (.node 151 (.scal) (.node 134 (.scal) .leaf .leaf) .leaf) (.node 154 (.obj) (.node 153 (.pfrz) .leaf .leaf) .leaf))))) (.node 236 (.scal) (.node 191 (.pfrz) (.node 176 (.scal) (.node 173 (.scal) (.node 168 (.scal) (.node 167 (.obj) .leaf .leaf) (.node 172 (.scal) .leaf .leaf)) (.node 175 (.scal) (.node 174 (.pfrz) .leaf .leaf) .leaf)) (.node 182 (.pfrz) (.node 181 (.scal) (.node 180 (.pfrz) .leaf .leaf) .leaf) (.node 190 (.pfrz) (.node 189 (.scal) .leaf .leaf) .leaf))) (.node 216 (.pfrz) (.node 212 (.scal) (.node 205 (.inpf) (.node 204 (.scal) .leaf .leaf) (.node 211 (.scal) .leaf .leaf)) (.node 215 (.pfrz) (.node 213 (.scal) .leaf .leaf) .leaf)) (.node 227 (.scal) (.node 226 (.inpl) (.node 217 (.inpf) .leaf .leaf) .leaf) (.node 231 (.inpf) (.node 230 (.inpf) .leaf .leaf) .leaf)))) (.node 252 (.scal) (.node 244 (.inpl) (.node 241 (.inpf) (.node 239 (.inpf) (.node 238 (.inpl) .leaf .leaf) (.node 240 (.pfrz) .leaf .leaf)) (.node 243 (.inpf) (.node 242 (.inpf) .leaf .leaf) .leaf)) (.node 249 (.inpl) (.node 248 (.inpf) (.node 247 (.pfrz) .leaf .leaf) .leaf) (.node 251 (.inpf) (.node 250 (.inpf) .leaf .leaf) .leaf))) (.node 271 (.inpf) (.node 268 (.scal) (.node 265 (.pfrz) (.node 253 (.inpf) .leaf .leaf) (.node 267 (.scal) .leaf .leaf)) (.node 270 (.scal) (.node 269 (.scal) .leaf .leaf) .leaf)) (.node 279 (.scal) (.node 278 (.scal) (.node 277 (.scal) .leaf .leaf) .leaf) (.node 281 (.scal) (.node 280 (.scal) .leaf .leaf) .leaf)))))
def qzi:BT (BT (List Nat)):=.node 91 (.node 21 ([3]) .leaf .leaf) (.node 53 (.node 1 ([3,7,9,11]) .leaf .leaf) (.node 19 (.node 10 ([4]) .leaf .leaf) (.node 17 (.node 6 ([4]) .leaf .leaf) .leaf .leaf) .leaf) (.node 58 (.node 1 ([1]) .leaf .leaf) .leaf .leaf)) (.node 153 (.node 3 ([3]) .leaf .leaf) (.node 101 (.node 5 ([6]) .leaf .leaf) .leaf .leaf) (.node 242 (.node 7 ([2]) .leaf .leaf) .leaf .leaf))
def qn8{α:Type}(a b:Nat)(t:BT (BT α)):Option α:=match t.look a with|some u=>u.look b|none=>none
def qyv(f r k:Nat):Bool:=match qn8 f r qzi with|some l=>yD k l|none=>false
def qyq:BT (BT (List Tmp×List Tmp)):=.node 155 (.node 4 ([0,1,2,6,24,25,26],[0,1,2,6,7]) .leaf .leaf) (.node 83 (.node 4 ([2,3],[2,3]) .leaf .leaf) (.node 52 (.node 4 ([0,1,5],[4]) .leaf .leaf) (.node 16 (.node 4 ([0,1,5],[4]) .leaf .leaf) (.node 12 (.node 6 ([0,6,10,11,12],[6,7,8,9,11]) .leaf .leaf) (.node 8 (.node 2 ([0,3],[2]) .leaf .leaf) .leaf .leaf) .leaf) (.node 40 (.node 5 ([1,2,5,6],[5]) .leaf .leaf) (.node 19 (.node 6 ([6,19,20,21],[6]) .leaf .leaf) .leaf .leaf) .leaf)) (.node 58 (.node 3 ([3,8,9],[3]) .leaf .leaf) (.node 57 (.node 11 ([0,4,7,37,38,39],[0,4,7]) (.node 4 ([0,3,4,20,21,22],[0,3,4]) .leaf .leaf) .leaf) (.node 56 (.node 5 ([4,16,17,18],[4]) .leaf .leaf) .leaf .leaf) .leaf) (.node 81 (.node 7 ([2,3,4],[2,3,4,5]) .leaf .leaf) (.node 67 (.node 7 ([2,4,7,43,44,45],[6,7,8]) .leaf .leaf) .leaf .leaf) .leaf))) (.node 106 (.node 1 ([0,1,6,7],[]) .leaf .leaf) (.node 94 (.node 6 ([1,2,3,4,18,19,20],[2,3,4]) .leaf .leaf) (.node 91 (.node 15 ([0,7,48],[0,7]) .leaf .leaf) (.node 90 (.node 15 ([2],[41,97,108]) .leaf .leaf) .leaf .leaf) .leaf) (.node 103 (.node 3 ([3,6,7,8],[3]) .leaf .leaf) (.node 101 (.node 3 ([0,2,3,4],[2,3]) .leaf .leaf) .leaf .leaf) .leaf)) (.node 130 (.node 14 ([2,4,5,73,74,77,78,79],[2,3,4,5,73,74]) (.node 11 ([2,4,5,73,74],[2,3,4]) .leaf .leaf) .leaf) (.node 120 (.node 7 ([6,10,11,38,39,40],[6,7,11]) .leaf .leaf) (.node 114 (.node 1 ([0,6,7,8],[]) .leaf .leaf) .leaf .leaf) .leaf) (.node 153 (.node 3 ([3],[3,4]) .leaf .leaf) (.node 151 (.node 9 ([5,6,70,71],[5]) (.node 2 ([5],[4]) .leaf .leaf) .leaf) .leaf .leaf) .leaf)))) (.node 237 (.node 4 ([3,4,9,10,11],[2,3]) .leaf .leaf) (.node 191 (.node 5 ([4],[4,5]) .leaf .leaf) (.node 181 (.node 3 ([3,6,16,17,18],[4,6]) .leaf .leaf) (.node 176 (.node 5 ([4,32,33,34],[2,3,4]) .leaf .leaf) (.node 167 (.node 16 ([3,69,70,71],[]) .leaf .leaf) .leaf .leaf) .leaf) (.node 190 (.node 11 ([3,7,29],[7]) (.node 6 ([3],[3]) .leaf .leaf) .leaf) (.node 188 (.node 0 ([0,1,2],[1,2]) .leaf .leaf) .leaf .leaf) .leaf)) (.node 211 (.node 2 ([0,1,7,8],[4]) .leaf .leaf) (.node 203 (.node 1 ([0,1,3],[]) .leaf .leaf) (.node 192 (.node 7 ([3],[0,3]) (.node 1 ([0,3],[]) .leaf .leaf) .leaf) .leaf .leaf) .leaf) (.node 236 (.node 2 ([0,1,7,8],[4]) .leaf .leaf) (.node 216 (.node 4 ([1,4,5,9,10,11],[1,2,3,4]) .leaf .leaf) .leaf .leaf) .leaf))) (.node 251 (.node 4 ([7],[0,5,6,7]) .leaf .leaf) (.node 242 (.node 3 ([2,3,10,11,12],[2,3]) .leaf .leaf) (.node 239 (.node 3 ([0,3,5],[3]) .leaf .leaf) (.node 238 (.node 17 ([0,4,5,70,71],[6]) .leaf .leaf) .leaf .leaf) .leaf) (.node 246 (.node 1 ([0,3],[]) .leaf .leaf) (.node 243 (.node 3 ([0,5,8,9,10],[4,5]) .leaf .leaf) .leaf .leaf) .leaf)) (.node 276 (.node 0 ([0,1],[]) .leaf .leaf) (.node 269 (.node 3 ([3,6,7,8],[2,3]) .leaf .leaf) (.node 252 (.node 1 ([2,3],[4]) .leaf .leaf) .leaf .leaf) .leaf) (.node 279 (.node 2 ([0,1,2,11,12,13],[0,1,6]) .leaf .leaf) .leaf .leaf))))
def qzo:BT (BT (List Tmp)):=.leaf
def qyt:BT (BT (List (Tmp×Nat))):=.node 152 (.node 0 ([(18,1004)]) .leaf .leaf) (.node 91 (.node 15 ([(7,4)]) .leaf .leaf) (.node 81 (.node 7 ([(2,6),(4,6)]) (.node 0 ([(2,6)]) .leaf .leaf) .leaf) (.node 78 (.node 0 ([(2,7)]) .leaf .leaf) (.node 43 (.node 0 ([(13,1004),(15,1004)]) .leaf .leaf) .leaf .leaf) .leaf) (.node 90 (.node 0 ([(41,1004),(97,1004),(108,1004)]) .leaf .leaf) .leaf .leaf)) (.node 103 (.node 3 ([(3,4)]) .leaf .leaf) (.node 93 (.node 0 ([(54,1004),(65,1004),(95,1004)]) .leaf .leaf) (.node 92 (.node 0 ([(69,1004)]) .leaf .leaf) .leaf .leaf) .leaf) (.node 151 (.node 9 ([(5,8)]) (.node 2 ([(5,8)]) .leaf .leaf) .leaf) .leaf .leaf))) (.node 239 (.node 3 ([(3,5)]) .leaf .leaf) (.node 192 (.node 7 ([(3,4)]) (.node 1 ([(3,4)]) .leaf .leaf) .leaf) (.node 191 (.node 5 ([(4,4)]) .leaf .leaf) (.node 190 (.node 11 ([(7,1)]) .leaf .leaf) .leaf .leaf) .leaf) (.node 216 (.node 4 ([(4,1)]) .leaf .leaf) .leaf .leaf)) (.node 243 (.node 3 ([(5,4)]) .leaf .leaf) (.node 242 (.node 3 ([(3,4)]) .leaf .leaf) .leaf .leaf) (.node 246 (.node 1 ([(3,4)]) .leaf .leaf) .leaf .leaf)))
def qaG(f:Nat):List (Nat×(List AV->AH->Option (AV×AH)))->Option (List AV->AH->Option (AV×AH))
 |[]=>none
 |p::l=>if qBh p.1 f then some p.2 else qaG f l
def qzv:BT TypeId:=.leaf
def qwY:BT (List (Nat×Nat×Nat)):=.node 93 ([(0,5,1004),(0,6,1004)]) (.node 63 ([(0,0,7)]) (.node 44 ([(0,5,1004),(0,6,1004)]) (.node 43 ([(0,5,1004),(0,6,1004)]) .leaf .leaf) (.node 57 ([(0,0,7)]) .leaf .leaf)) (.node 91 ([(0,5,1004),(0,6,1004)]) (.node 90 ([(0,5,1004),(0,6,1004)]) .leaf .leaf) (.node 92 ([(0,5,1004),(0,6,1004)]) .leaf .leaf))) (.node 115 ([(0,0,7)]) (.node 105 ([(0,0,7)]) (.node 104 ([(0,0,7)]) .leaf .leaf) (.node 114 ([(0,0,7)]) .leaf .leaf)) (.node 154 ([]) (.node 152 ([(0,5,1004),(0,6,1004)]) .leaf .leaf) (.node 167 ([(4,0,7)]) .leaf .leaf)))
def qwZ:BT Nat:=.node 93 (0) (.node 63 (0) (.node 44 (0) (.node 43 (0) .leaf .leaf) (.node 57 (0) .leaf .leaf)) (.node 91 (0) (.node 90 (0) .leaf .leaf) (.node 92 (0) .leaf .leaf))) (.node 115 (0) (.node 105 (0) (.node 104 (0) .leaf .leaf) (.node 114 (0) .leaf .leaf)) (.node 154 (0) (.node 152 (0) .leaf .leaf) (.node 167 (5) .leaf .leaf)))
def qy7:BT (List BSh):=.node 93 ([.row false [.leaf (.int .i64),.leaf (.int .i64),.leaf .str,.leaf .sl,.leaf (.int .i64),.sl 1,.sl 2,.mp 3,.leaf .bool],.rows true 4,.rows true 4,.mp true]) (.node 63 ([.row false [.sl 1],.rows true 7]) (.node 44 ([.row false [.leaf (.int .i64),.leaf (.int .i64),.leaf .str,.leaf .sl,.leaf (.int .i64),.sl 1,.sl 2,.mp 3,.leaf .bool],.rows true 4,.rows true 4,.mp true]) (.node 43 ([.row false [.leaf (.int .i64),.leaf (.int .i64),.leaf .str,.leaf .sl,.leaf (.int .i64),.sl 1,.sl 2,.mp 3,.leaf .bool],.rows true 4,.rows true 4,.mp true]) .leaf .leaf) (.node 57 ([.row false [.sl 1],.rows true 7]) .leaf .leaf)) (.node 91 ([.row false [.leaf (.int .i64),.leaf (.int .i64),.leaf .str,.leaf .sl,.leaf (.int .i64),.sl 1,.sl 2,.mp 3,.leaf .bool],.rows true 4,.rows true 4,.mp true]) (.node 90 ([.row false [.leaf (.int .i64),.leaf (.int .i64),.leaf .str,.leaf .sl,.leaf (.int .i64),.sl 1,.sl 2,.mp 3,.leaf .bool],.rows true 4,.rows true 4,.mp true]) .leaf .leaf) (.node 92 ([.row false [.leaf (.int .i64),.leaf (.int .i64),.leaf .str,.leaf .sl,.leaf (.int .i64),.sl 1,.sl 2,.mp 3,.leaf .bool],.rows true 4,.rows true 4,.mp true]) .leaf .leaf))) (.node 115 ([.row false [.sl 1],.rows true 7]) (.node 105 ([.row false [.sl 1],.rows true 7]) (.node 104 ([.row false [.sl 1],.rows true 7]) .leaf .leaf) (.node 114 ([.row false [.sl 1],.rows true 7]) .leaf .leaf)) (.node 154 ([.rows true 4]) (.node 152 ([.row false [.leaf (.int .i64),.leaf (.int .i64),.leaf .str,.leaf .sl,.leaf (.int .i64),.sl 1,.sl 2,.mp 3,.leaf .bool],.rows true 4,.rows true 4,.mp true]) .leaf .leaf) (.node 167 ([.row false [.mp 3],.row false [.ptr 4],.row false [.is (.fn (.func 167) [] [.ptr 0 0 0,.ptr 1 0 0,.ptr 2 0 0])],.mp true,.row false [.sl 5],.rows true 7]) .leaf .leaf)))
def qze:BT Unit:=.node 154 (()) .leaf .leaf
def qr2:List (Nat×(List AV->AH->Option (AV×AH))):=[]
def qhP:List (Nat×(List AV->AH->Option (AV×AH))):=(281,qfL)::qr2
theorem qlN:qr2=[]:=rfl
def qxg:BT Unit:=.node 168 (()) (.node 90 (()) (.node 46 (()) (.node 19 (()) (.node 12 (()) (.node 8 (()) (.node 5 (()) .leaf .leaf) (.node 9 (()) .leaf .leaf)) (.node 16 (()) (.node 14 (()) .leaf .leaf) (.node 17 (()) .leaf .leaf))) (.node 43 (()) (.node 40 (()) (.node 25 (()) .leaf .leaf) (.node 42 (()) .leaf .leaf)) (.node 45 (()) (.node 44 (()) .leaf .leaf) .leaf))) (.node 58 (()) (.node 55 (()) (.node 53 (()) (.node 52 (()) .leaf .leaf) (.node 54 (()) .leaf .leaf)) (.node 57 (()) (.node 56 (()) .leaf .leaf) .leaf)) (.node 78 (()) (.node 63 (()) (.node 62 (()) .leaf .leaf) (.node 67 (()) .leaf .leaf)) (.node 83 (()) (.node 81 (()) .leaf .leaf) .leaf)))) (.node 115 (()) (.node 103 (()) (.node 94 (()) (.node 92 (()) (.node 91 (()) .leaf .leaf) (.node 93 (()) .leaf .leaf)) (.node 102 (()) (.node 101 (()) .leaf .leaf) .leaf)) (.node 112 (()) (.node 105 (()) (.node 104 (()) .leaf .leaf) (.node 106 (()) .leaf .leaf)) (.node 114 (()) (.node 113 (()) .leaf .leaf) .leaf))) (.node 150 (()) (.node 132 (()) (.node 129 (()) (.node 120 (()) .leaf .leaf) (.node 130 (()) .leaf .leaf)) (.node 134 (()) (.node 133 (()) .leaf .leaf) .leaf)) (.node 154 (()) (.node 152 (()) (.node 151 (()) .leaf .leaf) (.node 153 (()) .leaf .leaf)) (.node 167 (()) (.node 155 (()) .leaf .leaf) .leaf))))) (.node 237 (()) (.node 204 (()) (.node 182 (()) (.node 175 (()) (.node 173 (()) (.node 172 (()) .leaf .leaf) (.node 174 (()) .leaf .leaf)) (.node 180 (()) (.node 176 (()) .leaf .leaf) (.node 181 (()) .leaf .leaf))) (.node 191 (()) (.node 189 (()) (.node 188 (()) .leaf .leaf) (.node 190 (()) .leaf .leaf)) (.node 203 (()) (.node 192 (()) .leaf .leaf) .leaf))) (.node 217 (()) (.node 213 (()) (.node 211 (()) (.node 205 (()) .leaf .leaf) (.node 212 (()) .leaf .leaf)) (.node 216 (()) (.node 215 (()) .leaf .leaf) .leaf)) (.node 230 (()) (.node 226 (()) (.node 225 (()) .leaf .leaf) (.node 227 (()) .leaf .leaf)) (.node 236 (()) (.node 231 (()) .leaf .leaf) .leaf)))) (.node 252 (()) (.node 244 (()) (.node 241 (()) (.node 239 (()) (.node 238 (()) .leaf .leaf) (.node 240 (()) .leaf .leaf)) (.node 243 (()) (.node 242 (()) .leaf .leaf) .leaf)) (.node 249 (()) (.node 247 (()) (.node 246 (()) .leaf .leaf) (.node 248 (()) .leaf .leaf)) (.node 251 (()) (.node 250 (()) .leaf .leaf) .leaf))) (.node 270 (()) (.node 267 (()) (.node 265 (()) (.node 253 (()) .leaf .leaf) (.node 266 (()) .leaf .leaf)) (.node 269 (()) (.node 268 (()) .leaf .leaf) .leaf)) (.node 278 (()) (.node 276 (()) (.node 271 (()) .leaf .leaf) (.node 277 (()) .leaf .leaf)) (.node 280 (()) (.node 279 (()) .leaf .leaf) .leaf)))))
def qzn:BT Unit:=.node 99 (()) (.node 25 (()) (.node 23 (()) (.node 22 (()) .leaf .leaf) .leaf) (.node 93 (()) (.node 29 (()) .leaf .leaf) .leaf)) (.node 205 (()) (.node 188 (()) (.node 106 (()) .leaf .leaf) .leaf) (.node 236 (()) .leaf .leaf))
def qzy:BT Unit:=.node 205 (()) .leaf .leaf
def qy0:BT Unit:=.node 40 (()) .leaf .leaf
def qzm:BT Unit:=.leaf
def qy5:BT (List Nat):=.node 144 ([99,4]) (.node 77 ([65,32]) (.node 56 ([54,55]) (.node 42 ([22,32]) (.node 33 ([25,4,3,32]) .leaf .leaf) (.node 48 ([25,4,32]) .leaf .leaf)) (.node 62 ([61,32]) (.node 59 ([58,32]) .leaf .leaf) .leaf)) (.node 114 ([3,32]) (.node 111 ([3,25,32]) (.node 100 ([99,32]) .leaf .leaf) .leaf) (.node 132 ([118,32]) (.node 116 ([25,32]) .leaf .leaf) .leaf))) (.node 192 ([4,4]) (.node 170 ([106,4]) (.node 150 ([3,4]) (.node 146 ([22,40]) .leaf .leaf) (.node 156 ([25,4]) .leaf .leaf)) (.node 190 ([23,4]) (.node 172 ([9,32]) .leaf .leaf) .leaf)) (.node 228 ([118,4]) (.node 208 ([3,3,32]) (.node 202 ([93,4]) .leaf .leaf) .leaf) (.node 282 ([118,118]) (.node 242 ([40,4]) .leaf .leaf) .leaf)))
def qvx:List (Nat×Func):=[(129,Tryz.f129),(132,Tryz.f132),(150,Tryz.f150),(188,Tryz.f188),(192,Tryz.f192),(203,Tryz.f203),(225,Tryz.f225),(237,Tryz.f237),(246,Tryz.f246),(266,Tryz.f266),(276,Tryz.f276)]
def qtw:BT Func:=.node 168 (Tryz.f168) (.node 90 (Tryz.f90) (.node 46 (Tryz.f46) (.node 19 (Tryz.f19) (.node 12 (Tryz.f12) (.node 8 (Tryz.f8) (.node 5 (Tryz.f5) .leaf .leaf) (.node 9 (Tryz.f9) .leaf .leaf)) (.node 16 (Tryz.f16) (.node 14 (Tryz.f14) .leaf .leaf) (.node 17 (Tryz.f17) .leaf .leaf))) (.node 43 (Tryz.f43) (.node 40 (Tryz.f40) (.node 25 (Tryz.f25) .leaf .leaf) (.node 42 (Tryz.f42) .leaf .leaf)) (.node 45 (Tryz.f45) (.node 44 (Tryz.f44) .leaf .leaf) .leaf))) (.node 58 (Tryz.f58) (.node 55 (Tryz.f55) (.node 53 (Tryz.f53) (.node 52 (Tryz.f52) .leaf .leaf) (.node 54 (Tryz.f54) .leaf .leaf)) (.node 57 (Tryz.f57) (.node 56 (Tryz.f56) .leaf .leaf) .leaf)) (.node 78 (Tryz.f78) (.node 63 (Tryz.f63) (.node 62 (Tryz.f62) .leaf .leaf) (.node 67 (Tryz.f67) .leaf .leaf)) (.node 83 (Tryz.f83) (.node 81 (Tryz.f81) .leaf .leaf) .leaf)))) (.node 115 (Tryz.f115) (.node 103 (Tryz.f103) (.node 94 (Tryz.f94) (.node 92 (Tryz.f92) (.node 91 (Tryz.f91) .leaf .leaf) (.node 93 (Tryz.f93) .leaf .leaf)) (.node 102 (Tryz.f102) (.node 101 (Tryz.f101) .leaf .leaf) .leaf)) (.node 112 (Tryz.f112) (.node 105 (Tryz.f105) (.node 104 (Tryz.f104) .leaf .leaf) (.node 106 (Tryz.f106) .leaf .leaf)) (.node 114 (Tryz.f114) (.node 113 (Tryz.f113) .leaf .leaf) .leaf))) (.node 150 (Tryz.f150) (.node 132 (Tryz.f132) (.node 129 (Tryz.f129) (.node 120 (Tryz.f120) .leaf .leaf) (.node 130 (Tryz.f130) .leaf .leaf)) (.node 134 (Tryz.f134) (.node 133 (Tryz.f133) .leaf .leaf) .leaf)) (.node 154 (Tryz.f154) (.node 152 (Tryz.f152) (.node 151 (Tryz.f151) .leaf .leaf) (.node 153 (Tryz.f153) .leaf .leaf)) (.node 167 (Tryz.f167) (.node 155 (Tryz.f155) .leaf .leaf) .leaf))))) (.node 237 (Tryz.f237) (.node 204 (Tryz.f204) (.node 182 (Tryz.f182) (.node 175 (Tryz.f175) (.node 173 (Tryz.f173) (.node 172 (Tryz.f172) .leaf .leaf) (.node 174 (Tryz.f174) .leaf .leaf)) (.node 180 (Tryz.f180) (.node 176 (Tryz.f176) .leaf .leaf) (.node 181 (Tryz.f181) .leaf .leaf))) (.node 191 (Tryz.f191) (.node 189 (Tryz.f189) (.node 188 (Tryz.f188) .leaf .leaf) (.node 190 (Tryz.f190) .leaf .leaf)) (.node 203 (Tryz.f203) (.node 192 (Tryz.f192) .leaf .leaf) .leaf))) (.node 217 (Tryz.f217) (.node 213 (Tryz.f213) (.node 211 (Tryz.f211) (.node 205 (Tryz.f205) .leaf .leaf) (.node 212 (Tryz.f212) .leaf .leaf)) (.node 216 (Tryz.f216) (.node 215 (Tryz.f215) .leaf .leaf) .leaf)) (.node 230 (Tryz.f230) (.node 226 (Tryz.f226) (.node 225 (Tryz.f225) .leaf .leaf) (.node 227 (Tryz.f227) .leaf .leaf)) (.node 236 (Tryz.f236) (.node 231 (Tryz.f231) .leaf .leaf) .leaf)))) (.node 252 (Tryz.f252) (.node 244 (Tryz.f244) (.node 241 (Tryz.f241) (.node 239 (Tryz.f239) (.node 238 (Tryz.f238) .leaf .leaf) (.node 240 (Tryz.f240) .leaf .leaf)) (.node 243 (Tryz.f243) (.node 242 (Tryz.f242) .leaf .leaf) .leaf)) (.node 249 (Tryz.f249) (.node 247 (Tryz.f247) (.node 246 (Tryz.f246) .leaf .leaf) (.node 248 (Tryz.f248) .leaf .leaf)) (.node 251 (Tryz.f251) (.node 250 (Tryz.f250) .leaf .leaf) .leaf))) (.node 270 (Tryz.f270) (.node 267 (Tryz.f267) (.node 265 (Tryz.f265) (.node 253 (Tryz.f253) .leaf .leaf) (.node 266 (Tryz.f266) .leaf .leaf)) (.node 269 (Tryz.f269) (.node 268 (Tryz.f268) .leaf .leaf) .leaf)) (.node 278 (Tryz.f278) (.node 276 (Tryz.f276) (.node 271 (Tryz.f271) .leaf .leaf) (.node 277 (Tryz.f277) .leaf .leaf)) (.node 280 (Tryz.f280) (.node 279 (Tryz.f279) .leaf .leaf) .leaf)))))
theorem qx6:qtw.All λf fn=>Tryz.prog.funcs[f]? =some fn:=(BT.all_node Tryz.func168 (BT.all_node Tryz.func90 (BT.all_node Tryz.func46 (BT.all_node Tryz.func19 (BT.all_node Tryz.func12 (BT.all_node Tryz.func8 (BT.all_node Tryz.func5 trivial trivial) (BT.all_node Tryz.func9 trivial trivial)) (BT.all_node Tryz.func16 (BT.all_node Tryz.func14 trivial trivial) (BT.all_node Tryz.func17 trivial trivial))) (BT.all_node Tryz.func43 (BT.all_node Tryz.func40 (BT.all_node Tryz.func25 trivial trivial) (BT.all_node Tryz.func42 trivial trivial)) (BT.all_node Tryz.func45 (BT.all_node Tryz.func44 trivial trivial) trivial))) (BT.all_node Tryz.func58 (BT.all_node Tryz.func55 (BT.all_node Tryz.func53 (BT.all_node Tryz.func52 trivial trivial) (BT.all_node Tryz.func54 trivial trivial)) (BT.all_node Tryz.func57 (BT.all_node Tryz.func56 trivial trivial) trivial)) (BT.all_node Tryz.func78 (BT.all_node Tryz.func63 (BT.all_node Tryz.func62 trivial trivial) (BT.all_node Tryz.func67 trivial trivial)) (BT.all_node Tryz.func83 (BT.all_node Tryz.func81 trivial trivial) trivial)))) (BT.all_node Tryz.func115 (BT.all_node Tryz.func103 (BT.all_node Tryz.func94 (BT.all_node Tryz.func92 (BT.all_node Tryz.func91 trivial trivial) (BT.all_node Tryz.func93 trivial trivial)) (BT.all_node Tryz.func102 (BT.all_node Tryz.func101 trivial trivial) trivial)) (BT.all_node Tryz.func112 (BT.all_node Tryz.func105 (BT.all_node Tryz.func104 trivial trivial) (BT.all_node Tryz.func106 trivial trivial)) (BT.all_node Tryz.func114 (BT.all_node Tryz.func113 trivial trivial) trivial))) (BT.all_node Tryz.func150 (BT.all_node Tryz.func132 (BT.all_node Tryz.func129 (BT.all_node Tryz.func120 trivial trivial) (BT.all_node Tryz.func130 trivial trivial)) (BT.all_node Tryz.func134 (BT.all_node Tryz.func133 trivial trivial) trivial)) (BT.all_node Tryz.func154 (BT.all_node Tryz.func152 (BT.all_node Tryz.func151 trivial trivial) (BT.all_node Tryz.func153 trivial trivial)) (BT.all_node Tryz.func167 (BT.all_node Tryz.func155 trivial trivial) trivial))))) (BT.all_node Tryz.func237 (BT.all_node Tryz.func204 (BT.all_node Tryz.func182 (BT.all_node Tryz.func175 (BT.all_node Tryz.func173 (BT.all_node Tryz.func172 trivial trivial) (BT.all_node Tryz.func174 trivial trivial)) (BT.all_node Tryz.func180 (BT.all_node Tryz.func176 trivial trivial) (BT.all_node Tryz.func181 trivial trivial))) (BT.all_node Tryz.func191 (BT.all_node Tryz.func189 (BT.all_node Tryz.func188 trivial trivial) (BT.all_node Tryz.func190 trivial trivial)) (BT.all_node Tryz.func203 (BT.all_node Tryz.func192 trivial trivial) trivial))) (BT.all_node Tryz.func217 (BT.all_node Tryz.func213 (BT.all_node Tryz.func211 (BT.all_node Tryz.func205 trivial trivial) (BT.all_node Tryz.func212 trivial trivial)) (BT.all_node Tryz.func216 (BT.all_node Tryz.func215 trivial trivial) trivial)) (BT.all_node Tryz.func230 (BT.all_node Tryz.func226 (BT.all_node Tryz.func225 trivial trivial) (BT.all_node Tryz.func227 trivial trivial)) (BT.all_node Tryz.func236 (BT.all_node Tryz.func231 trivial trivial) trivial)))) (BT.all_node Tryz.func252 (BT.all_node Tryz.func244 (BT.all_node Tryz.func241 (BT.all_node Tryz.func239 (BT.all_node Tryz.func238 trivial trivial) (BT.all_node Tryz.func240 trivial trivial)) (BT.all_node Tryz.func243 (BT.all_node Tryz.func242 trivial trivial) trivial)) (BT.all_node Tryz.func249 (BT.all_node Tryz.func247 (BT.all_node Tryz.func246 trivial trivial) (BT.all_node Tryz.func248 trivial trivial)) (BT.all_node Tryz.func251 (BT.all_node Tryz.func250 trivial trivial) trivial))) (BT.all_node Tryz.func270 (BT.all_node Tryz.func267 (BT.all_node Tryz.func265 (BT.all_node Tryz.func253 trivial trivial) (BT.all_node Tryz.func266 trivial trivial)) (BT.all_node Tryz.func269 (BT.all_node Tryz.func268 trivial trivial) trivial)) (BT.all_node Tryz.func278 (BT.all_node Tryz.func276 (BT.all_node Tryz.func271 trivial trivial) (BT.all_node Tryz.func277 trivial trivial)) (BT.all_node Tryz.func280 (BT.all_node Tryz.func279 trivial trivial) trivial))))))
def cfg:Cfg:={ P:=Tryz.prog,ty:=λt=>qn2.look t,mode:=λf=>match qyp.look f with|some m=>m|none=>.imp,frz:=λf r k=>qyv f r k,mask:=λf r=>qn8 f r qyq,cut:=λf r=>qn8 f r qzo,tup:=λt=>qy5.look t,ext:=λf=>qaG f qhP,known:=λf=>(qxg.look f).isSome,dat:=λt=>(qzn.look t).isSome,inl:=λf=>qit f qvx,lift:=λf r=>match qn8 f r qyt with|some l=>l|none=>[],ems:=λt=>(qzm.look t).isSome,ali:=λt=>(qzy.look t).isSome,wrt:=λt=>(qy0.look t).isSome,bld:=λt=>qzv.look t,olift:=λf=>match qwY.look f with|some l=>l|none=>[],shp:=λf=>match qy7.look f with|some l=>l|none=>[],okeep:=λf=>match qwZ.look f with|some n=>n|none=>0,nsp:=λf=>(qze.look f).isSome }
theorem qBa{fs:List Fact}(hfs:xQ cfg fs){f:Nat}{args:List AV}{v:AV}(m d:Nat)(h:(match yF cfg (λf=>qtw.look f) fs m d (.f f) args []with|some r=>some r.1|none=>none)=some v):EVs (EV cfg) f args=some v:=qzk (λ_ _ h=>BT.all_look qx6 h) hfs m d h
theorem qog{fs:List Fact}(hfs:xQ cfg fs){f:Nat}{args:List AV}{v:AV}(m d:Nat)(h:(match yF cfg (λf=>qtw.look f) fs m d (.f f) args []with|some r=>gA (r.1.frz r.1.msIds r.2).fg some|none=>none)=some v):EVf (EV cfg) f args=some v:=qzl (λ_ _ h=>BT.all_look qx6 h) hfs m d h
instance inl_ok:InlOk cfg:=InlOk.of qvx (λ_=>rfl) ⟨⟨rfl,rfl,Tryz.func129,rfl⟩,⟨⟨rfl,rfl,Tryz.func132,rfl⟩,⟨⟨rfl,rfl,Tryz.func150,rfl⟩,⟨⟨rfl,rfl,Tryz.func188,rfl⟩,⟨⟨rfl,rfl,Tryz.func192,rfl⟩,⟨⟨rfl,rfl,Tryz.func203,rfl⟩,⟨⟨rfl,rfl,Tryz.func225,rfl⟩,⟨⟨rfl,rfl,Tryz.func237,rfl⟩,⟨⟨rfl,rfl,Tryz.func246,rfl⟩,⟨⟨rfl,rfl,Tryz.func266,rfl⟩,⟨⟨rfl,rfl,Tryz.func276,rfl⟩,trivial⟩⟩⟩⟩⟩⟩⟩⟩⟩⟩⟩
end Go.Proofs.YtafdkafbgohigaaGreat
end
noncomputable section
namespace Go.Av
def cmpS(a b:List UInt8):Int:=if a==b then 0 else if Op.bytesLess a b then -1 else 1
theorem qeO:∀a b:List UInt8,Lib.compareBytes a b=cmpS a b
 |[],[]=>rfl
 |[],_::_=>by simp[Lib.compareBytes,cmpS,Op.bytesLess]
 |_::_,[]=>by simp[Lib.compareBytes,cmpS,Op.bytesLess]
 |a::l,b::m=>by
  rw[Lib.compareBytes,qeO l m];unfold cmpS
  by_cases h:a=b
  ·subst h;have:¬a<a:=by simp
   by_cases h2:l=m
   ·subst h2;simp
   ·simp[Op.bytesLess,h2]
  ·have h':(a::l==b::m)=false:=by simp[h]
   rw[h'];simp only[qBu,if_false,Op.bytesLess]
   by_cases hlt:a<b
   ·simp[hlt]
   ·have:b<a:=by
     have h1:¬a.toNat<b.toNat:=hlt;have h2:a.toNat≠b.toNat:=λe=>h (UInt8.toNat.inj e)
     show b.toNat<a.toNat;omega
    simp[hlt,this,h]
theorem qpG [Lent] {P:Program} {f:FuncId} {fn:Func} (hf:P.funcs[f]? =some fn) (hn:(fn.name== "runtime.NumGoroutine")=false) (hb:fn.body.isNone=true) (hx:Extern.findNext fn=none)
  (he:Extern.find fn=some Extern.BytealgCompare.compare) {args:List AV} {H H':AH} {r:AV} (hr:qfL args H=some (r,H')) {C:qr} {μ:MMap} {w:World} {vs:Array Value} (ha:qK C μ args vs) (hw:Wld C μ H w):
  xr P (callFunc f vs) w (y8 C μ H w r H'):=by
 unfold qfL at hr;split at hr
 ·rename_i H0 a b;cases hr;obtain⟨hl,hv⟩:=ha;obtain⟨x,y,rfl⟩:∃x y,vs= #[x,y]:=by
   obtain⟨l⟩:=vs
   match l,hl with
   |[x,y],_=>exact⟨x,y,rfl⟩
  have h0:=hv 0 _ _ rfl rfl;have h1:=hv 1 _ _ rfl rfl;cases h0;cases h1;have hrun:(callFunc f #[.string ⟨a.toArray⟩,.string ⟨b.toArray⟩]).run P w= .ok (.value (.int .i64 (cmpS a b))) w:=by
   unfold callFunc;simp only[Sem.run_bind,run_program,Result.andThen_ok,hf,hn,hb,qBu,if_false,if_true,run_mark,hx,he,Lib.run_compareString,Sem.run_pure];rw[qeO]
  unfold xr;rw[hrun];exact⟨C,μ,.int _ _,hw,Ext.refl (qBp _)⟩
 ·cases hr
end Go.Av
namespace Go.Proofs.YtafdkafbgohigaaGreat
open Go.Av
theorem qup:qn2.All λt ti=>tiOf Tryz.prog t=some ti:=by
 unfold qn2
 repeat (first|exact trivial|refine BT.all_node (by show tiOf Tryz.prog _=_;kernel_rfl) ?_ ?_)
theorem qw3:Tryz.prog.funcs.toList.all (λfn=> !(fn.name== "runtime.NumGoroutine"))=true:=by kernel_rfl
theorem qo6:Tryz.prog.follows .mixedOrders=true:=by kernel_rfl
end Go.Proofs.YtafdkafbgohigaaGreat
end
noncomputable section
namespace Go.Av
abbrev Rz:=List (List AV)
abbrev Bz:=List UInt8
inductive Tm where
 |mk (k n:Int) (s:List UInt8) (l:List Tm)
 deriving Inhabited
namespace Tm
def kind:Tm->Int|mk k _ _ _=>k
def num:Tm->Int|mk _ n _ _=>n
def str:Tm->List UInt8|mk _ _ s _=>s
def subs:Tm->List Tm|mk _ _ _ l=>l
end Tm
mutual
def Tm.cells:Tm->List AV
 | .mk k n s l=>[.int .i64 k,.int .i64 n,.str s,.sl (qb l)]
def qb:List Tm->List (List AV)
 |[]=>[]
 |t::l=>t.cells::qb l
end
def Tm.av(t:Tm):AV:=.agg t.cells
theorem Tm.cells_mk(k n:Int)(s:List UInt8)(l:List Tm):(Tm.mk k n s l).cells=[.int .i64 k,.int .i64 n,.str s,.sl (qb l)]:=by rw[Tm.cells]
theorem Tm.av_mk(k n:Int)(s:List UInt8)(l:List Tm):(Tm.mk k n s l).av= .agg [.int .i64 k,.int .i64 n,.str s,.sl (qb l)]:=by rw[Tm.av,Tm.cells_mk]
theorem qaR:∀l:List Tm,qb l=l.map Tm.cells
 |[]=>by rw[qb];rfl
 |t::l=>by rw[qb,qaR l];rfl
@[simp] theorem qe(l:List Tm):(qb l).length=l.length:=by rw[qaR];simp
@[simp] theorem vo:qb []=[]:=by rw[qb]
theorem qR(t:Tm)(l:List Tm):qb (t::l)=t.cells::qb l:=by rw[qb]
theorem vH(a b:List Tm):qb (a++b)=qb a++qb b:=by simp[qaR]
theorem qsI(n:Nat)(a:List Tm):(qb a).take n=qb (a.take n):=by simp[qaR,List.map_take]
theorem qsJ(n:Nat)(a:List Tm):(qb a).drop n=qb (a.drop n):=by simp[qaR,List.map_drop]
theorem zx(l:List Tm)(i:Nat):(qb l)[i]? =(l[i]?).map Tm.cells:=by rw[qaR];simp
theorem qgb{l:List Tm}{i:Nat}{k n:Int}{s:List UInt8}{l':List Tm}(h:l[i]? =some (.mk k n s l')):(qb l)[i]? =some [.int .i64 k,.int .i64 n,.str s,.sl (qb l')]:=by rw[zx,h,←Tm.cells_mk];rfl
theorem quN(l:List Tm)(i:Nat)(t:Tm):(qb l).set i t.cells=qb (l.set i t):=by simp[qaR,List.map_set]
theorem ql0(t:Tm):qF 0 t.cells=true:=by
 obtain⟨k,n,s,l⟩:=t;rw[Tm.cells_mk];rfl
theorem qkN(l:List Tm):qV 0 (qb l)=true:=by
 induction l with
 |nil=>rw[qb];rfl
 |cons t l ih=>rw[qb,qV,ih,ql0];rfl
mutual
/-- no list is longer than is counted here, no text -/
def Tm.Ok:Tm->Prop
 | .mk _ _ s l=>s.length<1099511627776∧l.length<1099511627776∧OkL l
def OkL:List Tm->Prop
 |[]=>True
 |t::l=>t.Ok∧OkL l
end
theorem qmM{l:List Tm}:OkL l↔∀t∈l,t.Ok:=by
 induction l with
 |nil=>simp[OkL]
 |cons t l ih=>simp[OkL,ih]
theorem Tm.Ok.str{k n:Int}{s:List UInt8}{l:List Tm}(h:(Tm.mk k n s l).Ok):s.length<1099511627776:=by rw[Tm.Ok]at h;exact h.1
theorem Tm.Ok.len{k n:Int}{s:List UInt8}{l:List Tm}(h:(Tm.mk k n s l).Ok):l.length<1099511627776:=by rw[Tm.Ok]at h;exact h.2.1
theorem Tm.Ok.sub{k n:Int}{s:List UInt8}{l:List Tm}(h:(Tm.mk k n s l).Ok){t:Tm}(ht:t∈l):t.Ok:=by rw[Tm.Ok]at h;exact qmM.1 h.2.2 t ht
theorem OkL.get{l:List Tm}(h:OkL l){t:Tm}(ht:t∈l):t.Ok:=qmM.1 h t ht
theorem Tm.ind{P:Tm->Prop}(h:∀k n s l,(∀t∈l,P t)->P (.mk k n s l)):∀t,P t
 | .mk k n s l=>h k n s l (λt _=>Tm.ind h t)
theorem vq{x:Int}(h1: -9223372036854775808<=x)(h2:x<9223372036854775808):qBf .i64 x=x:=by
 simp[qBf,IntKind.bits,IntKind.signed];omega
theorem vn{i n:Nat}(h:i<n)(hn:n<1099511627776):qBf .i64 ((i:Int)+1)=((i+1:Nat):Int):=by
 rw[vq (by omega) (by omega)];rfl
theorem qZ(i:Nat):qh 0 (i:Int)=true:=by simp[qh]
theorem vO(i n:Nat):qn (i:Int) (n:Int)=decide (i<n):=by simp[qn]
def kTmC{α:Type}(l:List AV)(k:Int->Int->List UInt8->List (List AV)->Option α):Option α:=
 qa l λc cs=>kInt .i64 c λn=>qa cs λc cs=>kInt .i64 c λm=>qa cs λc cs=>kStr c λs=>qa cs λc cs=>kSl c λA=>kNil cs (k n m s A)
def kTmV{α:Type}(v:AV)(k:Int->Int->List UInt8->List (List AV)->Option α):Option α:=kAgg v λcs=>kTmC cs k
theorem qaS{α:Type}{l:List Tm}{i:Nat}{t:Tm}(h:l[i]? =some t)(k:List AV->Option α):kOpt (qBg (qb l) (qBj (i:Int))) k=k t.cells:=by
 rw[qI,qBB,zx,h];rfl
mutual
def Tm.w:Tm->Nat
 | .mk _ _ s l=>1+s.length+wL l
def wL:List Tm->Nat
 |[]=>0
 |t::l=>t.w+wL l
end
theorem Tm.w_mk(k n:Int)(s:List UInt8)(l:List Tm):(Tm.mk k n s l).w=1+s.length+wL l:=by rw[Tm.w]
theorem Tm.w_eq(t:Tm):t.w=1+t.str.length+wL t.subs:=by cases t;rw[Tm.w_mk];rfl
@[simp] theorem xy:wL []=0:=by rw[wL]
@[simp] theorem qE(t:Tm)(l:List Tm):wL (t::l)=t.w+wL l:=by rw[wL]
@[simp] theorem y9(a b:List Tm):wL (a++b)=wL a+wL b:=by
 induction a with
 |nil=>simp
 |cons t l ih=>simp[ih];omega
theorem xK(t:Tm):1<=t.w:=by rw[Tm.w_eq];omega
theorem xW{t:Tm}{l:List Tm}(h:t∈l):t.w<=wL l:=by
 induction l with
 |nil=>cases h
 |cons x l ih=>
  rw[qE];rcases qBG.1 h with rfl|h
  ·omega
  ·have:=ih h;omega
theorem qat(l:List Tm):l.length<=wL l:=by
 induction l with
 |nil=>simp
 |cons x l ih=>have:=xK x;simp;omega
theorem qbR(t:Tm):t.w<1099511627776->t.Ok:=by
 induction t using Tm.ind with
 |_ k n s l ih=>
  intro h;rw[Tm.w_mk]at h;rw[Tm.Ok];have:=qat l;exact⟨by omega,by omega,qmM.2 λt ht=>ih t ht (by have:=xW ht;omega)⟩
theorem qul(l:List Tm):wL l.reverse=wL l:=by
 induction l with
 |nil=>rfl
 |cons x l ih=>simp[ih];omega
end Go.Av
end
noncomputable section
namespace Go.Proofs.YtafdkafbgohigaaGreat
open Go.Av
def C0(W:World):qr:=λb o=>W.cell? ⟨b,o,none⟩
def M0:MMap:=λ_=>none
theorem wld0(W:World):Wld (C0 W) M0 [] W where
 cl:=λ_ _ _ h=>h
 dom:=λid m h=>by cases h
 res:=λid h=>by simp at h
 live:=λid b h=>by simp at h
 froz:=λid d sz rs h=>by simp at h
 inj:=λi i' b b' m m' h=>by simp at h
 free:=zV.nil
 lnt:=⟨λ_ _ _ h=>(by cases h),λh=>h.elim,λ_ _=>trivial⟩
structure TermTys (P:Program) (tT tL tI tS:TypeId):Prop where
 uT:∃f0 f1 f2 f3:Field,P.underlying tT=some (.struct #[f0,f1,f2,f3])∧f0.type=tI∧f0.offset=0∧f1.type=tI∧f1.offset=1∧f2.type=tS∧f2.offset=2∧f3.type=tL∧f3.offset=3
 uL:P.underlying tL=some (.slice tT)
 uI:P.underlying tI=some (.int .i64)
 uS:P.underlying tS=some .string
 cT:P.cellsOf tT=4
 cL:P.cellsOf tL=1
 cI:P.cellsOf tI=1
 cS:P.cellsOf tS=1
noncomputable section
variable {H : Type} {enc : TypeId × Value → H} {P : Program} {W : World} {tT tL tI tS : TypeId}
def qj5(W:World)(cs:List Value)(t:Tm):Prop:=cs.length=4∧∀(j:Nat) a v,t.cells[j]? =some a->cs[j]? =some v->a.isCell=true∧Rep (C0 W) M0 a v
theorem qfk{base:Nat}{a:Addr}{n:Nat}{cs:List Value}(h:W.cells? base a n=some cs)(hn:0<n):a.spot=none∧cs.length=n∧∀(j:Nat) v,cs[j]? =some v->W.cell? ⟨a.block,a.off+j,none⟩=some v:=by
 unfold World.cells? at h;split at h
 ·have hl:cs.length=n:=by simpa using mapM_some_length h
  have hg:∀(j:Nat),j<n->W.cell? (a.add j)=cs[j]? :=λj hj=>mapM_some_get h j j (by simp[hj])
  have hsp:a.spot=none:=by
   have h0:=hg 0 hn;rw[qBk (by omega)]at h0;cases hs:a.spot with
   |none=>rfl
   |some s=>
    simp only[World.cell?,Addr.add,qB5,hs]at h0;split at h0
    ·simp at h0
    ·cases h0
  refine⟨hsp,hl,λj v hv=>?_⟩;have hj:j<n:=by rw[←hl];exact(qBn.1 hv).1
  have:=hg j hj;rw[hv]at this;rw[zI _ _ hsp]at this;exact this
 ·cases h
theorem qvY{H:Type}{d:DataW H}{l:List (DataW H)}(h:d∈l):Rows.uptoBulk d<=Rows.uptoBulkAll l:=by
 induction l with
 |nil=>cases h
 |cons x r ih=>
  simp only[Rows.uptoBulkAll];cases qBG.1 h with
  |inl e=>subst e;omega
  |inr e=>have:=ih e;omega
theorem ql1{H:Type}:∀(l:List Tm) (ds:List (DataW H)),l.length=ds.length->(∀(i:Nat) t d,l[i]? =some t->ds[i]? =some d->t.w<=Rows.uptoBulk d)->wL l<=Rows.uptoBulkAll ds
 |[],[],_,_=>by simp[Rows.uptoBulkAll]
 |t::l,d::ds,hl,h=>by
  have h0:=h 0 t d rfl rfl;have:=ql1 l ds (by simpa using hl) (λi t d ht hd=>h (i+1) t d (by simpa using ht) (by simpa using hd));simp only[qE,Rows.uptoBulkAll];omega
theorem qu0(T:TermTys P tT tL tI tS):∀(n:Nat),
  (∀cs x,DataW.trod enc P W 0 (λ_=>true) true n tT cs=some x->∃t:Tm,qj5 W cs t∧t.w<=Rows.uptoBulk x.1 ∧
   ∀(W':World) (sp:Nat->Bool),(∀p∈x.2,W.sameAt W' p)->(∀p∈x.2,sp p.block=true)->DataW.trod enc P W' 0 sp true n tT cs=some x) ∧
  (∀cs x,DataW.trod enc P W 0 (λ_=>true) true n tL cs=some x->∃(l:List Tm) (v:Value),cs=[v]∧Rep (C0 W) M0 (.sl (qb l)) v∧wL l<=Rows.uptoBulk x.1 ∧
   ∀(W':World) (sp:Nat->Bool),(∀p∈x.2,W.sameAt W' p)->(∀p∈x.2,sp p.block=true)->DataW.trod enc P W' 0 sp true n tL cs=some x):=by
 intro n
 induction n with
 |zero=>exact⟨λcs x h=>by simp[DataW.trod]at h,λcs x h=>by simp[DataW.trod]at h⟩
 |succ n ih=>
  obtain⟨ihT,ihL⟩:=ih;refine⟨λcs x h=>?_,λcs x h=>?_⟩
  ·obtain⟨f0,f1,f2,f3,hu,t0,o0,t1,o1,t2,o2,t3,o3⟩:=T.uT;obtain⟨xs,n',e,rfl,hl,hxl,hx⟩:=DataW.trod_struct hu h;obtain rfl:n'=n:=by omega
   rw[T.cT]at hl;obtain⟨c0,c1,c2,c3,rfl⟩:∃c0 c1 c2 c3,cs=[c0,c1,c2,c3]:=by
    match cs,hl with
    |[a,b,c,d],_=>exact⟨a,b,c,d,rfl⟩
   obtain⟨x0,x1,x2,x3,rfl⟩:∃c0 c1 c2 c3,xs=[c0,c1,c2,c3]:=by
    match xs,hxl with
    |[a,b,c,d],_=>exact⟨a,b,c,d,rfl⟩
   have h0:=hx 0 f0 rfl;have h1:=hx 1 f1 rfl;have h2:=hx 2 f2 rfl;have h3:=hx 3 f3 rfl;rw[t0,o0,T.cI]at h0;rw[t1,o1,T.cI]at h1;rw[t2,o2,T.cS]at h2;rw[t3,o3,T.cL]at h3;simp at h0 h1 h2 h3;obtain⟨k,e0,rfl,w0⟩:=DataW.trod_int T.uI h0;obtain⟨m,e1,rfl,w1⟩:=DataW.trod_int T.uI h1;obtain⟨s,e2,rfl,w2⟩:=DataW.trod_string T.uS h2;obtain⟨l,v,e3,hr,hb,hback⟩:=ihL _ _ h3;simp at e0 e1 e2 e3;subst e0 e1 e2 e3;refine⟨.mk k m s.data.toList l,⟨rfl,λj a u ha hu=>?_⟩,?_,λW' sp hs hp=>?_⟩
   ·rw[Tm.cells_mk]at ha
    match j,ha,hu with
    |0,ha,hu=>simp at ha hu;subst ha hu;exact⟨rfl,.int _ _⟩
    |1,ha,hu=>simp at ha hu;subst ha hu;exact⟨rfl,.int _ _⟩
    |2,ha,hu=>
     simp at ha hu;subst ha hu;refine⟨rfl,?_⟩;have:=Rep.str (C:=C0 W) (μ:=M0) s.data.toList
     simpa using this
    |3,ha,hu=>simp at ha hu;subst ha hu;exact⟨rfl,hr⟩
    |(j+4),ha,hu=>simp at ha
   ·simp only[qBZ,List.map_nil,Rows.uptoBulk,Rows.uptoBulkAll];rw[Tm.w_mk];omega
   ·have hs3:∀p∈x3.2,W.sameAt W' p:=λp hp=>hs p (by simp[hp])
    have hp3:∀p∈x3.2,sp p.block=true:=λp hpp=>hp p (by simp[hpp])
    have b3:=hback W' sp hs3 hp3;have b0:DataW.trod enc P W' 0 sp true n' tI [Value.int .i64 k]=some (.lit (.int .i64 k),[]):=by
     cases n' with
     |zero=>simp[DataW.trod]at h0
     |succ q=>simp[DataW.trod,T.uI,w0]
    have b1:DataW.trod enc P W' 0 sp true n' tI [Value.int .i64 m]=some (.lit (.int .i64 m),[]):=by
     cases n' with
     |zero=>simp[DataW.trod]at h0
     |succ q=>simp[DataW.trod,T.uI,w1]
    have b2:DataW.trod enc P W' 0 sp true n' tS [Value.string s]=some (.lit (.string s.data.toList),[]):=by
     cases n' with
     |zero=>simp[DataW.trod]at h0
     |succ q=>simp[DataW.trod,T.uS,w2]
    unfold DataW.trod;rw[hu];simp[T.cT,t0,o0,t1,o1,t2,o2,t3,o3,T.cI,T.cS,T.cL,b0,b1,b2,b3]
  ·rcases DataW.trod_slice T.uL h with⟨rfl,rfl⟩|⟨a,len,cap,elems,rest,n',e,rfl,rfl,hb,hlc,hmx,hel,hg,hsp,_⟩
   ·refine⟨[],_,rfl,by rw[vo];exact .slNil,by simp,λW' sp _ _=>?_⟩;simp[DataW.trod,T.uL]
   ·obtain rfl:n'=n:=by omega
    obtain⟨hrl,hrg⟩:=hsp rfl;have one:∀(i:Nat) (y:DataW H×List MemPlace),(W.cells? 0 (a.add (i*P.cellsOf tT)) (P.cellsOf tT)).bind (DataW.trod enc P W 0 (λ_=>true) true n' tT)=some y ->
      ∃cs',W.cells? 0 (a.add (i*4)) 4=some cs'∧DataW.trod enc P W 0 (λ_=>true) true n' tT cs'=some y:=by
     intro i y hy;rw[T.cT]at hy;exact qBl.1 hy
    -- the terms
    have tms:∃f:Nat->Tm,∀(i:Nat) y,elems[i]? =some y->∃cs',W.cells? 0 (a.add (i*4)) 4=some cs'∧qj5 W cs' (f i)∧(f i).w<=Rows.uptoBulk y.1:=by
     have:∀i:Nat,∃t:Tm,∀y,elems[i]? =some y->∃cs',W.cells? 0 (a.add (i*4)) 4=some cs'∧qj5 W cs' t∧t.w<=Rows.uptoBulk y.1:=by
      intro i;cases hy:elems[i]? with
      |none=>exact⟨default,λy h=>by cases h⟩
      |some y=>
       have hi:i<len:=by rw[←hel];exact(qBn.1 hy).1
       obtain⟨cs',h1,h2⟩:=one i y ((hg i hi).trans hy);obtain⟨t,h3,h4,_⟩:=ihT _ _ h2;exact⟨t,λy' hy'=>by cases hy';exact⟨cs',h1,h3,h4⟩⟩
     exact⟨λi=>Classical.choose (this i),λi=>Classical.choose_spec (this i)⟩
    obtain⟨f,hf⟩:=tms;have hget:∀(i:Nat) (row:List AV),(qb ((qBT len).map f))[i]? =some row->i<len∧row=(f i).cells:=by
     intro i row hi;have hil:i<len:=by have:=(qBn.1 hi).1;simpa using this
     refine⟨hil,?_⟩;rw[zx,List.getElem?_map,List.getElem?_range hil]at hi
     simpa using hi.symm
    have hcell:∀(i j:Nat) (row:List AV) x,(qb ((qBT len).map f))[i]? =some row->row[j]? =some x->a.spot=none∧x.isCell=true∧∃v,W.cell? ⟨a.block,a.off+i*4+j,none⟩=some v∧Rep (C0 W) M0 x v:=by
     intro i j row x hi hj;obtain⟨hil,rfl⟩:=hget i row hi;obtain⟨cs',h1,h2,_⟩:=hf i _ (qBk (by omega));obtain⟨s1,s2,s3⟩:=qfk h1 (by omega);have hspot:a.spot=none:=by
      obtain⟨cs0,q1,_⟩:=hf 0 _ (qBk (by omega));have:=(qfk q1 (by omega)).1
      simpa [Addr.add]using this
     have hjl:j<cs'.length:=by
      rw[h2.1];have:=(qBn.1 hj).1;cases hfi:f i with
      |mk k n s l=>rw[hfi,Tm.cells_mk]at this;simpa using this
     have h4:=h2.2 j x _ hj (qBk hjl);refine⟨hspot,h4.1,_,?_,h4.2⟩;have:=s3 j _ (qBk hjl);rw[zI _ _ hspot]at this;exact this
    refine⟨(qBT len).map f,_,rfl,?_,?_,λW' sp hs hp=>?_⟩
    ·have:=Rep.sl (C:=C0 W) (μ:=M0) (qb ((qBT len).map f)) a cap 4 (λi j=>(W.cell? ⟨a.block,a.off+i*4+j,none⟩).getD undef) (λhne=>?_) (λi row hi=>?_) (λi j row x hi hj=>?_) (λi j row x hi hj=>?_) (λi j row x hi hj=>?_) (by simpa using hlc) (qkN _)
     ·simpa using this
     ·have hl0:0<len:=by
       rcases Nat.eq_zero_or_pos len with h0|h0
       ·subst h0;exact absurd (by simp) hne
       ·exact h0
      obtain⟨cs0,q1,_⟩:=hf 0 _ (qBk (by omega));have:=(qfk q1 (by omega)).1
      simpa [Addr.add]using this
     ·obtain⟨_,rfl⟩:=hget i row hi;cases hfi:f i with
      |mk k n s l=>rw[Tm.cells_mk];rfl
     ·obtain⟨_,_,v,h1,_⟩:=hcell i j row x hi hj;show W.cell? _=_;rw[h1];rfl
     ·obtain⟨_,_,v,h1,h2⟩:=hcell i j row x hi hj;rw[h1];exact h2
     ·exact(hcell i j row x hi hj).2.1
    ·simp only[Rows.uptoBulk];have:=ql1 ((qBT len).map f) (elems.map (·.1)) (by simp[hel]) (λi t d ht hd=>by
      rw[List.getElem?_map]at ht hd;obtain⟨j,hj,rfl⟩:=qBq.1 ht;obtain⟨y,hy,rfl⟩:=qBq.1 hd;have hil:i<len:=by have:=(qBn.1 hj).1;simpa using this
      rw[List.getElem?_range hil]at hj;cases hj;obtain⟨_,_,_,h4⟩:=hf i y hy;exact h4)
     omega
    ·have hrow:0<(elems.length+rest.length)->sp a.block=true:=λhpos=>hp (.cell a.block (a.off+0)) (by
      rw[qBF];exact .inl (MemPlace.mem_row.2 ⟨0,Nat.mul_pos hpos (by rw[T.cT];omega),rfl⟩))
     unfold DataW.trod at h⊢;rw[T.uL]at h⊢;simp only[if_true]at h⊢;rw[qB5 ⟨hb,hlc,hmx⟩]at h⊢;simp only[qBq,qBl]at h⊢;obtain⟨elems',he,rest',hr,hx⟩:=h;have hlen:elems'.length=len:=by simpa using mapM_some_length he
     have hrl':rest'.length=cap - len:=by simpa using mapM_some_length hr
     simp only[Prod.mk.injEq,DataW.slice.injEq]at hx;have one':∀(i:Nat) (y:DataW H×List MemPlace),i<elems'.length+rest'.length->y∈elems'++rest' ->
       (W.cells? 0 (a.add (i*P.cellsOf tT)) (P.cellsOf tT)).bind (DataW.trod enc P W 0 (λ_=>true) true n' tT)=some y->(W'.cells? 0 (a.add (i*P.cellsOf tT)) (P.cellsOf tT)).bind (DataW.trod enc P W' 0 sp true n' tT)=some y:=by
      intro i y hi hy hv;simp only[qBl]at hv⊢;obtain⟨cs',hc',hy'⟩:=hv;obtain⟨_,_,_,hbk⟩:=ihT _ _ hy';refine⟨cs',World.cells?_carry hc' (λp hpp=>hs p ?_),hbk W' sp (λp hpp=>hs p ?_) (λp hpp=>hp p ?_)⟩
      ·rw[←hx.2];obtain⟨j,hj,rfl⟩:=MemPlace.mem_row.1 hpp;simp only[qBF]
       left
       refine MemPlace.mem_row.2 ⟨i*P.cellsOf tT+j,?_,?_⟩
       ·calc i*P.cellsOf tT+j<i*P.cellsOf tT+P.cellsOf tT:=by omega
         _=(i+1)*P.cellsOf tT:=by rw[Nat.add_mul,Nat.one_mul]
         _<=(elems'.length+rest'.length)*P.cellsOf tT:=qBH _ hi
       ·unfold Addr.add;split
        ·rename_i h0;simp[h0]
        ·simp[qBO]
      ·rw[←hx.2];simp only[qBF,List.mem_flatMap]
       right
       exact⟨y,by simpa using hy,hpp⟩
      ·rw[←hx.2];simp only[qBF,List.mem_flatMap]
       right
       exact⟨y,by simpa using hy,hpp⟩
     refine⟨elems',mapM_carry he (λi y hi hy=>one' i y (by have:i<len:=(by simpa using hi);omega) (by simp[hy])),rest',?_,by simp only[Prod.mk.injEq,DataW.slice.injEq];exact hx⟩
     by_cases h0:0<elems.length+rest.length
     ·rw[qB5 (hrow h0)];exact mapM_carry hr (λj y hj hy=>one' (len+j) y (by have:j<cap - len:=(by simpa using hj);omega) (by simp[hy]))
     ·have hc0:cap - len=0:=by omega
      rw[hc0]at hr⊢;simp at hr;subst hr;split<;>rfl
end
end Go.Proofs.YtafdkafbgohigaaGreat
end
noncomputable section
namespace Go.Proofs.YtafdkafbgohigaaGreat
open Go.Av Go.ChangeShapes Go.WideShapes Go.ChangeAt Go.RowKit
theorem qwV:ownKnob Tryz.prog.godebug=none:=by kernel_rfl
noncomputable section
variable {H : Type} {enc : TypeId × Value → H} {P : Program} {W W' : World}
theorem quX{f:Func}{s:ChangeSpec}{apart fresh handsOn again:Bool}{args:Array Value}{v:Value}{ds gs:List (DataW H)}{before pa pv:List MemPlace}(hW:DataW.Whole enc P f.params.toList s.vars apart W args.toList ds gs before)(hres:∀(b:Nat) (sp:Nat->Bool) (hd:Bool),DataW.TrodAll enc P W' b sp hd f.resultTypes.toList (v.resultList f.resultTypes.size) (s.fn H (ds++gs)).results [])(hargs:∀sp:Nat->Bool,(∀p∈before,sp p.block=true)->DataW.TrodAll enc P W' 0 sp true f.params.toList args.toList (s.fn H (ds++gs)).args pa)(hvars:∀sp:Nat->Bool,(∀p∈before,sp p.block=true)->DataW.TrodVars enc P W' sp s.vars (s.fn H (ds++gs)).vars pv)(hps:before=pa++pv)(hk:W.keptBut W' (·∈before))(hfz:∀b o,b<W.heap.size->W'.frozen? ⟨b,o,none⟩=W.frozen? ⟨b,o,none⟩)(hok:∀(j:Nat) (t:TypeId) (r:Value),f.resultTypes[j]? =some t->(v.resultList f.resultTypes.size)[j]? =some r->Value.okWide P W' .any 0 t r):
  s.post enc P f apart fresh handsOn again W args v W':=by
 have hlt:=hW.lt;have hold:∀p∈before,(λb=>decide (b<W.heap.size)) p.block=true:=λp hp=>by simpa using hlt p hp
 refine⟨ds,gs,before,[],pa,pv,hW,hres _ _ _,hargs _ hold,hvars _ hold,World.keptBut_mono (λp hp=>⟨hp,?_⟩) hk,λ_=>?_⟩
 ·rw[hps,qBF]at hp;exact Or.inr hp
 ·obtain⟨_,_,_,_,_,hz,hn⟩:=hW;refine⟨hok,_,_,([]++pa)++pv,⟨[]++pa,pv,trodAll_append (hargs _ (λ_ _=>rfl)) (hres _ _ _),hvars _ (λ_ _=>rfl),rfl,?_,?_⟩,?_⟩
  ·intro b off hp;have hp':MemPlace.cell b off∈before:=by rw[hps];simpa using hp
   rw[hfz b off (hlt _ hp')];exact hz b off hp'
  ·intro ha;have:=hn ha;rw[hps]at this
   simpa using this
  ·intro p hp _;rw[hps]
   simpa using hp
theorem qpd(h:∀b,b<W.heap.size->W'.heap[b]? =W.heap[b]?)(ho:W'.os=W.os)(hu:W'.output=W.output)(may:MemPlace->Prop):W.keptBut W' may:=by
 refine⟨ho,hu,λi hi=>?_⟩;rw[h i hi];cases W.heap[i]? with
 |none=>rfl
 |some o=>cases o<;>simp
theorem qd1(h:∀b,b<W.heap.size->W'.heap[b]? =W.heap[b]?){p:MemPlace}(hp:p.block<W.heap.size):W.sameAt W' p:=by
 cases p with
 |cell b o=>simp only[World.sameAt,World.cell?];rw[h b hp]
 |map b=>exact h b hp
theorem qmB(h:∀b,b<W.heap.size->W'.heap[b]? =W.heap[b]?)(b o:Nat)(hb:b<W.heap.size):W'.frozen? ⟨b,o,none⟩=W.frozen? ⟨b,o,none⟩:=by
 simp only[World.frozen?];rw[h b hb]
structure Opened (enc:TypeId×Value->H) (P:Program) (W:World) (t:TypeId) (v:Value) (d:DataW H) (ps:List MemPlace) (a:AV):Prop where
 rep:Rep (C0 W) M0 a v
 back:∀(W':World) (sp:Nat->Bool),(∀p∈ps,W.sameAt W' p)->(∀p∈ps,sp p.block=true)->DataW.Trod enc P W' 0 sp true t v d ps
theorem qna{tT tL tI tS:TypeId}(T:TermTys P tT tL tI tS){r:Reach}{b0:Nat}{v:Value}{d:DataW H}{ps:List MemPlace}(hval:Value.okWide P W r b0 tT v)(hd:DataW.Trod enc P W 0 (λ_=>true) true tT v d ps):
  ∃t:Tm,Opened enc P W tT v d ps t.av∧t.w<=Rows.uptoBulk d:=by
 obtain⟨f0,f1,f2,f3,hu,_⟩:=T.uT;obtain⟨cs,rfl,hsz⟩:=okWide_struct hu hval;obtain⟨n,hn⟩:=hd;obtain⟨t,h1,h2,h3⟩:=(qu0 T n).1 _ _ hn;refine⟨t,⟨?_,λW' sp hs hp=>⟨n,h3 W' sp hs hp⟩⟩,h2⟩;have:=Rep.agg (C:=C0 W) (μ:=M0) t.cells cs.toList (by
  have:=h1.1;cases t with
  |mk k n s l=>rw[Tm.cells_mk];simpa [Value.cells]using this.symm) (λi a v ha hv=>(h1.2 i a v ha (by simpa [Value.cells]using hv)).2)
 simpa [Tm.av]using this
theorem qwX{tI:TypeId}(hu:P.underlying tI=some (.int .i64)){r:Reach}{b0:Nat}{v:Value}{d:DataW H}{ps:List MemPlace}(hval:Value.okWide P W r b0 tI v)(hd:DataW.Trod enc P W 0 (λ_=>true) true tI v d ps):
  ∃k:Int,Opened enc P W tI v d ps (.int .i64 k)∧(Lit.int .i64 k).wf=true:=by
 obtain⟨k,rfl⟩:=okWide_int hu hval;obtain⟨n,hn⟩:=hd;obtain⟨k',e0,ex,w0⟩:=DataW.trod_int hu hn;have e0:[Value.int .i64 k]=[Value.int .i64 k']:=by simpa [Value.cells]using e0
 cases e0;cases ex;refine⟨k,⟨.int _ _,λW' sp _ _=>⟨n,?_⟩⟩,w0⟩;cases n with
 |zero=>simp[DataW.trod]at hn
 |succ q=>simp[DataW.trod,hu,w0,Value.cells]
end
theorem qr4{H:Type}{l:List (DataW H)}(hk:Rows.uptoSmall H l=true){d:DataW H}(hd:d∈l):Rows.uptoBulk d<1099511627776:=by
 have h:Rows.uptoBulkAll l<=1048576:=of_decide_eq_true hk;have:=qvY hd;omega
theorem quS{C:qr}{a b c:AV}{x y z:Value}(h1:Rep C M0 a x)(h2:Rep C M0 b y)(h3:Rep C M0 c z):qK C M0 [a,b,c] #[x,y,z]:=⟨rfl,λi c v hc hv=>by
 match i,hc,hv with
 |0,hc,hv=>simp at hc hv;subst hc hv;exact h1
 |1,hc,hv=>simp at hc hv;subst hc hv;exact h2
 |2,hc,hv=>simp at hc hv;subst hc hv;exact h3
 |(i+3),hc,hv=>simp at hc⟩
end Go.Proofs.YtafdkafbgohigaaGreat
end
noncomputable section
namespace Go.Proofs.YtafdkafbgohigaaGreat
open Go.Av Go.ChangeShapes Go.WideShapes Go.ChangeAt Go.RowKit
theorem qoC:TermTys Tryz.prog 25 23 3 9 where
 uT:=⟨_,_,_,_,Tryz.underlying25,rfl,rfl,rfl,rfl,rfl,rfl,rfl,rfl⟩
 uL:=Tryz.underlying23
 uI:=Tryz.underlying3
 uS:=Tryz.underlying9
 cT:=by kernel_rfl
 cL:=by kernel_rfl
 cI:=by kernel_rfl
 cS:=by kernel_rfl
end Go.Proofs.YtafdkafbgohigaaGreat
end
noncomputable section
namespace Go.Proofs.YtafdkafbgohigaaGreat
open Go.Av Go.ChangeShapes Go.WideShapes Go.ChangeAt Go.RowKit
theorem qo5(f:FuncId)(fn:Func)(h:Tryz.prog.funcs[f]? =some fn):(fn.name== "runtime.NumGoroutine")=false:=by
 have h1:=List.all_eq_true.1 qw3 fn (by
  rw[←Array.getElem?_toList]at h;exact qBy h)
 simpa using h1
theorem qvO[Lent]{args:List AV}{H H':AH}{r:AV}{C:qr}{μ:MMap}{w:World}{vs:Array Value}(hr:qfL args H=some (r,H'))(ha:qK C μ args vs)(hw:Wld C μ H w):
  xr Tryz.prog (callFunc 281 vs) w (y8 C μ H w r H'):=
 qpG (P:=Tryz.prog) Tryz.func281 (by rfl) (by rfl) (by kernel_rfl) (by kernel_rfl) hr ha hw
theorem qzt [Lent] : CfgOk cfg where
  ty := ⟨fun t ti h => BT.all_look qup h⟩
  mixed := qo6
  named := fun f fn _ h => qo5 f fn h
  ext := fun f s h args H r H' hr C μ w vs ha hw => by
    have h : qaG f qhP = some s := h
    unfold qhP at h
    rw [qaG] at h
    split at h
    · rename_i e
      have e := qBo e
      subst e
      cases h
      exact qvO hr ha hw
    · rw [qlN] at h
      first
        | (rw [qaG] at h; cases h; done)
        | (have okK : CfgOk K.cfg := {
             ty := ⟨fun t ti h => BT.all_look (show K.qn2.All _ from qup) h⟩
             mixed := qo6
             named := fun f fn _ h => qo5 f fn h
             ext := fun f s h args H r H' hr C μ w vs ha hw => by
               have h : K.qaG f K.qhP = some s := h
               unfold K.qhP at h
               rw [K.qaG] at h
               split at h
               · rename_i e
                 have e := qBo e
                 subst e
                 cases h
                 exact qvO hr ha hw
               · rw [K.qlN, K.qaG] at h
                 cases h }
           rw [qaG] at h
           split at h
           · rename_i e
             have e := qBo e
             subst e
             cases h
             exact (qqe okK).calls _ _ _ _ _ hr C μ w vs _ ha hw rfl
           · rw [qaG] at h
             cases h)
theorem quR{f:FuncId}{args:List AV}{vs:Array Value}{W:World}(hx:cfg.ext f=none)(he:EVs (EV cfg) f args=some (.bool true))(ha:qK (C0 W) M0 args vs):
  Calls Tryz.prog f vs W λe W'=>e= .returned (.bool true)∧(∀b,b<W.heap.size->W'.heap[b]? =W.heap[b]?)∧W.heap.size<=W'.heap.size∧W'.os=W.os∧W'.output=W.output:=by
 unfold EVs at he;obtain⟨q,h1,h2⟩:=qBq.1 he;have:=qxP qzt hx (r:=q.1) (H':=q.2) h1 ha (wld0 W);refine this.mono λe W' ⟨v,hv,C',μ',p1,p2,p3⟩=>?_
 rw[h2]at p1;cases p1;refine⟨hv,λb hb=>(p3.fr b hb qaW).1,p3.size,p3.os,p3.output⟩
end Go.Proofs.YtafdkafbgohigaaGreat
end
noncomputable section
namespace Go.Av
mutual
def AV.wt:AV->Nat
 | .str s=>s.length+1
 | .sl rows=>wtR rows+1
 |_=>1
def wtL:List AV->Nat
 |[]=>0
 |a::l=>a.wt+wtL l
def wtR:List (List AV)->Nat
 |[]=>0
 |a::l=>wtL a+wtR l
end
@[simp] theorem wtL_nil:wtL []=0:=by rw[wtL]
@[simp] theorem wtL_cons(a:AV)(l:List AV):wtL (a::l)=a.wt+wtL l:=by rw[wtL]
@[simp] theorem wtR_nil:wtR []=0:=by rw[wtR]
@[simp] theorem wtR_cons(a:List AV)(l:List (List AV)):wtR (a::l)=wtL a+wtR l:=by rw[wtR]
@[simp] theorem wt_int(k:IntKind)(n:Int):(AV.int k n).wt=1:=by rw[AV.wt]<;>simp
@[simp] theorem wt_bool(b:Bool):(AV.bool b).wt=1:=by rw[AV.wt]<;>simp
@[simp] theorem wt_str(s:List UInt8):(AV.str s).wt=s.length+1:=by rw[AV.wt]
@[simp] theorem wt_sl(r:List (List AV)):(AV.sl r).wt=wtR r+1:=by rw[AV.wt]
end Go.Av
namespace Go.Proofs.YtafdkafbgohigaaGreat
open Go.Av Go.WideShapes
def qdd(W:World)(cs:List Value)(cz:List AV):Prop:=cz.length=cs.length∧∀(j:Nat) a v,cz[j]? =some a->cs[j]? =some v->a.isCell=true∧Rep (C0 W) M0 a v
theorem qdd.nil{W:World}:qdd W [] []:=⟨rfl,λj a v h=>by simp at h⟩
theorem qdd.one{W:World}{a:AV}{v:Value}(h1:a.isCell=true)(h2:Rep (C0 W) M0 a v):qdd W [v] [a]:=⟨rfl,λj a' v' ha hv=>by
 match j,ha,hv with
 |0,ha,hv=>simp at ha hv;subst ha hv;exact⟨h1,h2⟩
 |j+1,ha,hv=>simp at ha⟩
theorem qdd.append{W:World}{cs cs':List Value}{cz cz':List AV}(h:qdd W cs cz)(h':qdd W cs' cz'):qdd W (cs++cs') (cz++cz'):=by
 refine⟨by simp[h.1,h'.1],λj a v ha hv=>?_⟩
 by_cases hj:j<cz.length
 ·rw[qBx hj]at ha;rw[qBx (by rw[←h.1];exact hj)]at hv;exact h.2 j a v ha hv
 ·rw[qBz (by omega)]at ha;rw[qBz (by rw[←h.1];omega),←h.1]at hv;exact h'.2 _ a v ha hv
noncomputable section
variable {H : Type} {enc : TypeId × Value → H} {P : Program} {W : World}
end
structure InsA where
 o:Int
 a:Int
 b:Int
 t:Tm
def InsA.av(x:InsA):AV:=.agg (.int .i64 x.o:: .int .i64 x.a:: .int .i64 x.b::x.t.cells)
structure InsA.Ok (x:InsA):Prop where
 o1: -9223372036854775808<=x.o
 o2:x.o<=9223372036854775807
 a1: -9223372036854775808<=x.a
 a2:x.a<=9223372036854775807
 b1: -9223372036854775808<=x.b
 b2:x.b<=9223372036854775807
 w:x.t.w<1099511627776
end Go.Proofs.YtafdkafbgohigaaGreat
end
noncomputable section
namespace Go.Av
@[simp] theorem Tm.kind_mk(k n:Int)(s:List UInt8)(l:List Tm):(Tm.mk k n s l).kind=k:=rfl
@[simp] theorem Tm.num_mk(k n:Int)(s:List UInt8)(l:List Tm):(Tm.mk k n s l).num=n:=rfl
@[simp] theorem Tm.str_mk(k n:Int)(s:List UInt8)(l:List Tm):(Tm.mk k n s l).str=s:=rfl
@[simp] theorem Tm.subs_mk(k n:Int)(s:List UInt8)(l:List Tm):(Tm.mk k n s l).subs=l:=rfl
@[simp] theorem Tm.eta(t:Tm):Tm.mk t.kind t.num t.str t.subs=t:=by cases t;rfl
theorem Tm.cells_eq(t:Tm):t.cells=[.int .i64 t.kind,.int .i64 t.num,.str t.str,.sl (qb t.subs)]:=by cases t;rw[Tm.cells_mk];rfl
@[simp] theorem cells_fold(k n:Int)(s:List UInt8)(l:List Tm):[AV.int .i64 k,AV.int .i64 n,AV.str s,AV.sl (qb l)]=(Tm.mk k n s l).cells:=(Tm.cells_mk k n s l).symm
@[simp] theorem cells_fold0(k n:Int)(s:List UInt8):[AV.int .i64 k,AV.int .i64 n,AV.str s,AV.sl []]=(Tm.mk k n s []).cells:=by rw[Tm.cells_mk,vo]
@[simp] theorem agg_cells(t:Tm):AV.agg t.cells=t.av:=rfl
@[simp] theorem quO(t:Tm):[t.cells]=qb [t]:=by rw[qR,vo]
@[simp] theorem rowsT_cons'(t:Tm)(l:List Tm):t.cells::qb l=qb (t::l):=(qR t l).symm
@[simp] theorem rowsT_append'(a b:List Tm):qb a++qb b=qb (a++b):=(vH a b).symm
@[simp] theorem rowsT_app(a b:List Tm):qBA (qb a) (qb b)=qb (a++b):=(vH a b).symm
@[simp] theorem rowsT_take'(n:Nat)(a:List Tm):(qb a).take n=qb (a.take n):=qsI n a
@[simp] theorem rowsT_drop'(n:Nat)(a:List Tm):(qb a).drop n=qb (a.drop n):=qsJ n a
@[simp] theorem rowsT_set'(l:List Tm)(i:Nat)(t:Tm):(qb l).set i t.cells=qb (l.set i t):=quN l i t
@[simp] theorem rowsT_get'(l:List Tm)(i:Nat):(qb l)[i]? =(l[i]?).map Tm.cells:=zx l i
@[simp] theorem rowsT_getElem(l:List Tm)(i:Nat)(h:i<(qb l).length):(qb l)[i]=(l[i]'(by simpa using h)).cells:=by
 have h1:=zx l i
 rw[qBk h,qBk (by simpa using h)]at h1
 exact Option.some.inj h1
@[simp] theorem kOpt_map{α β γ:Type}(o:Option β)(g:β->γ)(k:γ->Option α):kOpt (o.map g) k=kOpt o λx=>k (g x):=by cases o<;>rfl
@[simp] theorem qD(t:Tm):t.cells.length=4:=by rw[Tm.cells_eq];rfl
@[simp] theorem qQ(t:Tm):t.cells.take 4=t.cells:=by rw[Tm.cells_eq];rfl
@[simp] theorem drop_cells(t:Tm):t.cells.drop 4=[]:=by rw[Tm.cells_eq];rfl
@[simp] theorem cells_0(t:Tm):t.cells[0]? =some (.int .i64 t.kind):=by rw[Tm.cells_eq];rfl
@[simp] theorem cells_1(t:Tm):t.cells[1]? =some (.int .i64 t.num):=by rw[Tm.cells_eq];rfl
@[simp] theorem cells_2(t:Tm):t.cells[2]? =some (.str t.str):=by rw[Tm.cells_eq];rfl
@[simp] theorem cells_3(t:Tm):t.cells[3]? =some (.sl (qb t.subs)):=by rw[Tm.cells_eq];rfl
@[simp] theorem refs_cells(n:Nat)(t:Tm):qF n t.cells=true:=by rw[Tm.cells_eq];rfl
@[simp] theorem allCells_cells(t:Tm):xE t.cells=true:=by rw[Tm.cells_eq];rfl
@[simp] theorem rowsT_free'(l:List Tm):qV 0 (qb l)=true:=qkN l
@[simp] theorem qb5(l:List Tm):xR 4 (qb l)=true:=by
 cases l with
 |nil=>rw[vo];rfl
 |cons t l=>rw[qR,xR,qD];rfl
@[simp] theorem qv{α:Type}(t:Tm)(k:Int->Int->List UInt8->List (List AV)->Option α):kTmC t.cells k=k t.kind t.num t.str (qb t.subs):=by rw[Tm.cells_eq];rfl
@[simp] theorem qW{α:Type}(t:Tm)(k:Int->Int->List UInt8->List (List AV)->Option α):kTmV t.av k=k t.kind t.num t.str (qb t.subs):=by rw[Tm.av,Tm.cells_eq];rfl
theorem quh{i n:Nat}(h:i<n)(hn:n<1099511627776):qBf .i64 ((i:Int)+1)=(i:Int)+1:=vq (by omega) (by omega)
@[simp] theorem cast_nn(q:Nat):(0<=(q:Int)+1)=True:=eq_true (by omega)
@[simp] theorem cast_le1(q n:Nat):((q:Int)+1<=(n:Int))=(q+1<=n):=propext (by omega)
@[simp] theorem cast_lt1(q n:Nat):((q:Int)+1<(n:Int))=(q+1<n):=propext (by omega)
@[simp] theorem cast_nn'(q:Nat):(0<(q:Int)+1)=True:=eq_true (by omega)
@[simp] theorem cast_ne0(q:Nat):((q:Int)+1==0)=false:=by rw[beqD];exact qB4 (by omega)
@[simp] theorem cast_lt_s(q:Nat):((q:Int)<(q:Int)+1)=True:=eq_true (by omega)
@[simp] theorem cast_le_s(q:Nat):((q:Int)<=(q:Int)+1)=True:=eq_true (by omega)
theorem qxV{n:Nat}(hn:n<4398046511104):qBf .i64 (n:Int)=n:=vq (by omega) (by omega)
def numC(a b:Int):Int:=if a<b then -1 else if b<a then 1 else 0
def strC(a b:List UInt8):Int:=if a=b then 0 else if Op.bytesLess a b then -1 else 1
mutual
def cmpT:Tm->Tm->Int
 | .mk k n s l,b=>
  if numC k b.kind≠0 then numC k b.kind
  else if k=1∨k=3∨k=4∨k=6 then numC n b.num
  else if k=2 then strC s b.str
  else if k=5 then(if numC n b.num≠0 then numC n b.num else if numC l.length b.subs.length≠0 then numC l.length b.subs.length else cmpE l b.subs)
  else if k=7∨k=9 then(if numC l.length b.subs.length≠0 then numC l.length b.subs.length else cmpE l b.subs)
  else 0
def cmpE:List Tm->List Tm->Int
 |[],[]=>0
 |[],_::_=> -1
 |_::_,[]=>1
 |a::l,b::l'=>if cmpT a b≠0 then cmpT a b else cmpE l l'
end
def cmpL(l l':List Tm):Int:=if numC l.length l'.length≠0 then numC l.length l'.length else cmpE l l'
theorem qu2{a b:Int}:numC a b=0↔a=b:=by unfold numC;split<;>(try split)<;>omega
theorem qu3(a:Int):numC a a=0:=qu2.2 rfl
theorem qyB(k n:Int)(s:List UInt8)(l:List Tm)(k' n':Int)(s':List UInt8)(l':List Tm):cmpT (.mk k n s l) (.mk k' n' s' l') =
  if numC k k'≠0 then numC k k' else if k=1∨k=3∨k=4∨k=6 then numC n n' else if k=2 then strC s s'
  else if k=5 then(if numC n n'≠0 then numC n n' else cmpL l l')else if k=7∨k=9 then cmpL l l' else 0:=by
 rw[cmpT];rfl
theorem qhX(a b:Tm)(l l':List Tm):cmpE (a::l) (b::l')=if cmpT a b≠0 then cmpT a b else cmpE l l':=by rw[cmpE]
theorem qpT:cmpE [] []=0:=by rw[cmpE]
theorem qnP(b:Tm)(l':List Tm):cmpE [] (b::l')= -1:=by rw[cmpE]
theorem qnQ(a:Tm)(l:List Tm):cmpE (a::l) []=1:=by rw[cmpE]
def C3(p q r:Int):Prop:=(p<=0->q<=0->r<=0)∧(p<0->q<=0->r<0)∧(p<=0->q<0->r<0)∧(0<=p->0<=q->0<=r)∧(0<p->0<=q->0<r)∧(0<=p->0<q->0<r)
def yH(k n:Int)(s:List UInt8)(m:Nat):Bool:=
 if k=1 then decide (-576460752303423488<=n)&&(decide (n<=576460752303423487)&&(decide (s=[])&&decide (m=0)))
 else if k=2 then decide (n=0)&&(decide (s.length<=64)&&decide (m=0))
 else if k=3 then decide (0<=n)&&(decide (n<=1073741824)&&(decide (s=[])&&decide (m=0)))
 else if k=4 then decide (0<=n)&&(decide (n<=1073741824)&&(decide (s=[])&&decide (m=0)))
 else if k=6 then decide (0<=n)&&(decide (n<=1073741824)&&(decide (s=[])&&decide (m=0)))
 else if k=5 then decide (0<=n)&&(decide (n<=1073741824)&&(decide (s=[])&&decide (m<=64)))
 else if k=7 then decide (n=0)&&(decide (s=[])&&decide (m<=64))
 else if k=8 then decide (n=0)&&(decide (s=[])&&decide (m=0))
 else if k=9 then decide (n=0)&&(decide (s=[])&&decide (m=2))
 else false
def Tm.sound(t:Tm):Bool:=yH t.kind t.num t.str t.subs.length
def Tm.own(t:Tm):Nat:=if t.kind=7∨t.kind=5 then 2 else 1
theorem ze(a b:Bool):(bif a then some (AV.bool b)else some (AV.bool false))=some (.bool (a&&b)):=by cases a<;>rfl
theorem qzw(s:List UInt8):(s==[])=decide (s=[]):=by cases s<;>simp
theorem beqI(a b:Int):(a==b)=decide (a=b):=by simp[beqD]
mutual
/-- may all parts of a term be? -/
def Tm.parts:Tm->Bool
 | .mk k n s l=>yH k n s l.length&&xh l
def xh:List Tm->Bool
 |[]=>true
 |t::l=>t.parts&&xh l
end
mutual
/-- how many words all parts have -/
def Tm.words:Tm->Nat
 | .mk k n s l=>(Tm.mk k n s l).own+vG l
def vG:List Tm->Nat
 |[]=>0
 |t::l=>t.words+vG l
end
theorem Tm.parts_eq(t:Tm):t.parts=(t.sound&&xh t.subs):=by cases t;rw[Tm.parts];rfl
theorem Tm.words_eq(t:Tm):t.words=t.own+vG t.subs:=by cases t;rw[Tm.words];rfl
theorem qdg(a b:List Tm):xh (a++b)=(xh a&&xh b):=by
 induction a with
 |nil=>simp[xh]
 |cons x l ih=>simp[xh,ih,Bool.and_assoc]
theorem qde(a b:List Tm):vG (a++b)=vG a+vG b:=by
 induction a with
 |nil=>simp[vG]
 |cons x l ih=>simp[vG,ih];omega
theorem qsQ(a:List Tm):xh a.reverse=xh a:=by
 induction a with
 |nil=>rfl
 |cons x l ih=>simp[qdg,xh,ih,Bool.and_comm]
theorem qsd(a:List Tm):vG a.reverse=vG a:=by
 induction a with
 |nil=>rfl
 |cons x l ih=>simp[qde,vG,ih];omega
theorem Tm.own_le(t:Tm):t.own<=2∧1<=t.own:=by unfold Tm.own;split<;>omega
def chkS(R:List Tm)(wd:Nat):Int:=if xh R then(if 65536<wd+vG R then 3 else 0)else 2
def Tm.chk(t:Tm):Int:=chkS [t] 0
theorem qxC{R:List Tm}{x:Tm}{wd:Nat}(h:x.sound=false):chkS (R++[x]) wd=2:=by
 unfold chkS;rw[qdg];simp[xh,Tm.parts_eq,h]
theorem qnv{R:List Tm}{x:Tm}{wd:Nat}(h:x.sound=true):chkS (R++x.subs.reverse) (wd+x.own)=chkS (R++[x]) wd:=by
 unfold chkS;simp only[qdg,qsQ,qde,qsd,xh,vG,Tm.parts_eq,Tm.words_eq,h,qBV,Bool.and_true];have:wd+x.own+(vG R+vG x.subs)=wd+(vG R+(x.own+vG x.subs+0)):=by omega
 rw[this]
def numT(i:Int):Tm:=.mk 1 i [] []
def symT(s:List UInt8):Tm:=.mk 2 0 s []
def qbA:Tm:=.mk 8 0 [] []
def tupT(l:List Tm):Tm:=.mk 7 0 [] l
def q9:Tm:=.mk 0 0 [] []
theorem qyo(i:Int):(numT i).av= .agg [.int .i64 1,.int .i64 i,.str [],.sl []]:=by rw[numT,Tm.av_mk,vo]
theorem qrG(s:List UInt8):(symT s).av= .agg [.int .i64 2,.int .i64 0,.str s,.sl []]:=by rw[symT,Tm.av_mk,vo]
theorem x9:q9.av= .agg [.int .i64 0,.int .i64 0,.str [],.sl []]:=by rw[q9,Tm.av_mk,vo]
def InB(a:Int):Prop:= -576460752303423488<=a∧a<=576460752303423487
instance (a:Int):Decidable (InB a):=inferInstanceAs (Decidable (_∧_))
theorem qw0{a:Int}(h:InB a):(numT a).chk=0:=by
 obtain⟨h1,h2⟩:=h;simp[numT,Tm.chk,chkS,xh,Tm.parts,yH,vG,Tm.words,Tm.own,Tm.kind,h1,h2]
def vj(n:Int):Option Tm:=if InB n then some (numT n)else none
theorem qbS{a:Int}(h:InB a):BitVec.ofInt 64 a=(BitVec.ofInt 60 a).signExtend 64:=by
 obtain⟨h1,h2⟩:=h;apply BitVec.eq_of_toInt_eq;rw[BitVec.toInt_signExtend_of_le (by omega),BitVec.toInt_ofInt,BitVec.toInt_ofInt];rw[Int.bmod_eq_of_le (by omega) (by omega),Int.bmod_eq_of_le (by omega) (by omega)]
theorem qdm(r:BitVec 64):qBf .i64 r.toNat=r.toInt:=by
 have h:=r.isLt;rw[BitVec.toInt_eq_toNat_cond];simp[qBf,IntKind.bits,IntKind.signed];omega
def bvG(op:BinOp)(a b:Int):Int:=
 match op with
 | .and=>(BitVec.ofInt 60 a &&& BitVec.ofInt 60 b).toInt
 | .or=>(BitVec.ofInt 60 a ||| BitVec.ofInt 60 b).toInt
 |_=>(BitVec.ofInt 60 a ^^^ BitVec.ofInt 60 b).toInt
theorem qyE{a b:Int}(ha:InB a)(hb:InB b):qU (Op.intBits .and .i64 a b)=some (.int .i64 (bvG .and a b)):=by
 have:qU (Op.intBits .and .i64 a b)=some (.int .i64 (qBf .i64 (BitVec.ofInt 64 a &&& BitVec.ofInt 64 b).toNat)):=rfl;rw[this,qdm,qbS ha,qbS hb,←BitVec.signExtend_and,BitVec.toInt_signExtend_of_le (by omega)];rfl
theorem qzu{a b:Int}(ha:InB a)(hb:InB b):qU (Op.intBits .or .i64 a b)=some (.int .i64 (bvG .or a b)):=by
 have:qU (Op.intBits .or .i64 a b)=some (.int .i64 (qBf .i64 (BitVec.ofInt 64 a ||| BitVec.ofInt 64 b).toNat)):=rfl;rw[this,qdm,qbS ha,qbS hb,←BitVec.signExtend_or,BitVec.toInt_signExtend_of_le (by omega)];rfl
theorem qyD{a b:Int}(ha:InB a)(hb:InB b):qU (Op.intBits .xor .i64 a b)=some (.int .i64 (bvG .xor a b)):=by
 have:qU (Op.intBits .xor .i64 a b)=some (.int .i64 (qBf .i64 (BitVec.ofInt 64 a ^^^ BitVec.ofInt 64 b).toNat)):=rfl;rw[this,qdm,qbS ha,qbS hb,←BitVec.signExtend_xor,BitVec.toInt_signExtend_of_le (by omega)];rfl
def qbL(op:List UInt8)(a b:Int):Option Tm:=
 if op=[43]then vj (a+b)
 else if op=[45]then vj (a - b)
 else if op=[42]then vj (a*b)
 else if op=[98,97,110,100]then vj (bvG .and a b)
 else if op=[98,111,114]then vj (bvG .or a b)
 else if op=[98,120,111,114]then vj (bvG .xor a b)
 else if b=0 then none
 else if op=[100,105,118]then vj (a.tdiv b)
 else vj (a.tmod b)
theorem beqS(a b:List UInt8):(a==b)=decide (a=b):=by by_cases h:a=b<;>simp[h]
theorem qtn{a b:Int}(h:b≠0):qU (Op.intDiv .quo .i64 a b)=some (.int .i64 (qBf .i64 (a.tdiv b))):=by
 unfold Op.intDiv;rw[qB6 h];rfl
theorem qtm{a b:Int}(h:b≠0):qU (Op.intDiv .rem .i64 a b)=some (.int .i64 (a.tmod b)):=by
 unfold Op.intDiv;rw[qB6 h];rfl
theorem qwD{a b:Int}(_h:b≠0):(a.tdiv b).natAbs<=a.natAbs:=by
 rw[Int.natAbs_tdiv];exact Nat.div_le_self _ _
structure Env where
 obj:Tm
 binds:List (Int×Tm)
 self:Int
def xb(l:List (Int×Tm)):List (List AV):=l.map λp=>.int .i64 p.1::p.2.cells
theorem yG(l:List (Int×Tm)):(xb l).length=l.length:=by simp[xb]
theorem qgz(l:List (Int×Tm))(i:Nat):(xb l)[i]? =(l[i]?).map λp=>.int .i64 p.1::p.2.cells:=by simp[xb]
abbrev mR(e:Env)(b:Bool):List (List AV):=[[.int .i64 e.obj.kind,.int .i64 e.obj.num,.str e.obj.str,.sl (qb e.obj.subs),.sl (xb e.binds),.int .i64 e.self,.bool b]]
def Res(e:Env)(o:Option Tm)(r:AV×List (List AV)):Prop:=
 match o with
 |some t=>r=(t.av,mR e false)
 |none=>r.2=mR e true∧∃t:Tm,r.1=t.av
def tru:List UInt8:=[116,114,117,101]
def fal:List UInt8:=[102,97,108,115,101]
def xc(b:Bool):Tm:=symT (if b then tru else fal)
def vL(t:Tm):Option Bool:=if t.kind=2∧t.str=tru then some true else if t.kind=2∧t.str=fal then some false else none
def twoG(op:List UInt8)(a b:Tm):Option Tm:=
 if op=[61,61]then some (xc (decide (cmpT a b=0)))
 else if op=[61,58,61]then some (xc (decide (cmpT a b=0)))
 else if op=[47,61]then some (xc (!decide (cmpT a b=0)))
 else if op=[61,47,61]then some (xc (!decide (cmpT a b=0)))
 else if op=[60]then some (xc (decide (cmpT a b<0)))
 else if op=[61,60]then some (xc (decide (cmpT a b<=0)))
 else if op=[62]then some (xc (decide (cmpT a b>0)))
 else if op=[62,61]then some (xc (decide (cmpT a b≥0)))
 else if op=[97,110,100]∨op=[97,110,100,97,108,115,111]then(vL a).bind λx=>(vL b).map λy=>xc (x&&y)
 else if op=[111,114]∨op=[111,114,101,108,115,101]then(vL a).bind λx=>(vL b).map λy=>xc (x||y)
 else if op=[120,111,114]then(vL a).bind λx=>(vL b).map λy=>xc (x != y)
 else if op=[101,108,101,109,101,110,116]then(if a.kind=1∧1<=a.num∧b.kind=7∧a.num<=b.subs.length then b.subs[(a.num - 1).toNat]? else none)
 else if a.kind=1∧b.kind=1 then qbL op a.num b.num else none
def qfC:List (List UInt8×List Int):=[
 ([115,101,108,102],[0]),
 ([105,115,95,97,116,111,109],[1]),
 ([105,115,95,105,110,116,101,103,101,114],[1]),
 ([105,115,95,108,105,115,116],[1]),
 ([105,115,95,116,117,112,108,101],[1]),
 ([105,115,95,112,105,100],[1]),
 ([105,115,95,102,117,110,99,116,105,111,110],[1]),
 ([105,115,95,114,101,102,101,114,101,110,99,101],[1]),
 ([110,111,116],[1]),
 ([98,110,111,116],[1]),
 ([97,98,115],[1]),
 ([116,117,112,108,101,95,115,105,122,101],[1]),
 ([115,105,122,101],[1]),
 ([104,100],[1]),
 ([116,108],[1]),
 ([108,101,110,103,116,104],[1]),
 ([43],[1,2]),
 ([45],[1,2]),
 ([61,61],[2]),
 ([61,58,61],[2]),
 ([47,61],[2]),
 ([61,47,61],[2]),
 ([60],[2]),
 ([61,60],[2]),
 ([62],[2]),
 ([62,61],[2]),
 ([97,110,100],[2]),
 ([111,114],[2]),
 ([120,111,114],[2]),
 ([97,110,100,97,108,115,111],[2]),
 ([111,114,101,108,115,101],[2]),
 ([42],[2]),
 ([100,105,118],[2]),
 ([114,101,109],[2]),
 ([98,97,110,100],[2]),
 ([98,111,114],[2]),
 ([98,120,111,114],[2]),
 ([101,108,101,109,101,110,116],[2])]
def qaK{β:Type}(op:List UInt8)(d:β):List (List UInt8×β)->β
 |[]=>d
 |p::l=>bif op==p.1 then p.2 else qaK op d l
theorem qnd{β γ:Type}(g:β->γ)(op:List UInt8)(d:β):∀l:List (List UInt8×β),qaK op (g d) (l.map λp=>(p.1,g p.2))=g (qaK op d l)
 |[]=>rfl
 |p::l=>by
  rw[qBZ,qaK,qaK,qnd g op d l];cases op==p.1<;>rfl
def opsG(op:List UInt8):List Int:=qaK op [] qfC
def vC(l:List Int):List (List AV):=l.map λn=>[.int .i64 n]
theorem zE(l:List Int):(vC l).length=l.length:=by simp[vC]
theorem qvv(l:List Int)(i:Nat):(vC l)[i]? =(l[i]?).map λn=>[AV.int .i64 n]:=by simp[vC]
def zw(n:Int):Bool:=decide (1<=n)&&decide (n<=1073741824)
theorem qyn(n:Int):(numT n).Ok:=by simp[numT,Tm.Ok,OkL]
theorem qmP{n:Int}{t:Tm}(h:vj n=some t):t.Ok∧t=numT n:=by
 unfold vj at h;split at h
 ·cases h;exact⟨qyn n,rfl⟩
 ·cases h
theorem qqP{op:List UInt8}{a b:Int}{t:Tm}(h:qbL op a b=some t):t.Ok∧∃n,t=numT n:=by
 unfold qbL at h
 repeat' split at h
 all_goals first|(cases h;done)|exact⟨(qmP h).1,_,(qmP h).2⟩
theorem Tm.Ok.subs{t:Tm}(h:t.Ok){x:Tm}(hx:x∈t.subs):x.Ok:=by
 obtain⟨k,n,s,l⟩:=t;exact h.sub hx
def qac(b:UInt8):Option Int:=if b.toNat<48 then none else if b.toNat>57 then none else some ((b.toNat:Int) - 48)
def varG:List UInt8->Option Int
 |[a,b]=>if a.toNat=36 then qac b else none
 |[a,b,c]=>if a.toNat=36∧b.toNat≠48 then(qac b).bind λx=>(qac c).map λy=>x*10+y else none
 |_=>none
theorem qeN{b:UInt8}{x:Int}(h:qac b=some x):0<=x∧x<=9:=by
 unfold qac at h;split at h
 ·cases h
 ·split at h
  ·cases h
  ·cases h;omega
theorem qxW(a b:UInt8):varG [a,b]=if a.toNat=36 then qac b else none:=rfl
theorem qsf(a b c:UInt8):varG [a,b,c]=if a.toNat=36∧b.toNat≠48 then(qac b).bind λx=>(qac c).map λy=>x*10+y else none:=rfl
theorem qfu{s:List UInt8}{x:Int}(h:varG s=some x):0<=x∧x<=99:=by
 unfold varG at h;split at h
 ·split at h
  ·have:=qeN h;omega
  ·cases h
 ·split at h
  ·obtain⟨a,h1,h2⟩:=qBl.1 h;obtain⟨b,h3,rfl⟩:=qBq.1 h2;have:=qeN h1;have:=qeN h3;omega
  ·cases h
 ·cases h
def varT(t:Tm):Option Int:=if t.kind=2∧t.chk=0 then varG t.str else none
theorem qkj{n:Nat}(h:n<18446744073709551616):qBf .u64 (n:Int)=n:=by
 simp[qBf,IntKind.bits,IntKind.signed];omega
theorem qig{n:Nat}(h:n<64):qU (Op.shift .shl .u64 1 .i64 (n:Int))=some (.int .u64 ((2 ^ n:Nat):Int)):=by
 have hp:2 ^ n<18446744073709551616:=by
  have:2 ^ n<2 ^ 64:=Nat.pow_lt_pow_right (by omega) h
  simpa using this
 have:qU (Op.shift .shl .u64 1 .i64 (n:Int))=some (.int .u64 (qBf .u64 (1*2 ^ (min (n:Int).toNat 64)))):=by
  unfold Op.shift;rw[qB6 (by omega)];rfl
 rw[this,qBB,Nat.min_eq_left (by omega),Int.one_mul];have e:((2:Int) ^ n)=((2 ^ n:Nat):Int):=by simp
 rw[e,qkj hp]
theorem qip{a b:Nat}(ha:a<18446744073709551616)(hb:b<18446744073709551616):qU (Op.intBits .or .u64 (a:Int) (b:Int))=some (.int .u64 ((a ||| b:Nat):Int)):=by
 have:qU (Op.intBits .or .u64 (a:Int) (b:Int))=some (.int .u64 (qBf .u64 (BitVec.ofInt 64 (a:Int) ||| BitVec.ofInt 64 (b:Int)).toNat)):=rfl;rw[this];have ea:(BitVec.ofInt 64 (a:Int)).toNat=a:=by simp[BitVec.toNat_ofInt];omega
 have eb:(BitVec.ofInt 64 (b:Int)).toNat=b:=by simp[BitVec.toNat_ofInt];omega
 have hlt:=(BitVec.ofInt 64 (a:Int) ||| BitVec.ofInt 64 (b:Int)).isLt;rw[qkj (by simpa using hlt),BitVec.toNat_or,ea,eb]
theorem qrH{a n:Nat}(ha:a<18446744073709551616)(hn:n<64):qU (Op.shift .shr .u64 (a:Int) .i64 (n:Int))=some (.int .u64 ((a / 2 ^ n:Nat):Int)):=by
 have:qU (Op.shift .shr .u64 (a:Int) .i64 (n:Int))=some (.int .u64 (Int.fdiv a (2 ^ (min (n:Int).toNat 64)))):=by
  unfold Op.shift;rw[qB6 (by omega)];rfl
 rw[this,qBB,Nat.min_eq_left (by omega)];have e:((2:Int) ^ n)=((2 ^ n:Nat):Int):=by simp
 rw[e,Int.fdiv_eq_ediv_of_nonneg _ (Int.natCast_nonneg _)];rfl
theorem qr7{a:Nat}(ha:a<18446744073709551616):qU (Op.intBits .and .u64 (a:Int) 1)=some (.int .u64 ((a % 2:Nat):Int)):=by
 have:qU (Op.intBits .and .u64 (a:Int) 1)=some (.int .u64 (qBf .u64 (BitVec.ofInt 64 (a:Int) &&& BitVec.ofInt 64 1).toNat)):=rfl;rw[this];have ea:(BitVec.ofInt 64 (a:Int)).toNat=a:=by simp[BitVec.toNat_ofInt];omega
 have eb:(BitVec.ofInt 64 (1:Int)).toNat=1:=by decide
 rw[BitVec.toNat_and,ea,eb,Nat.and_one_is_mod,qkj (by omega)]
def qbv(p:Nat->Bool)(r:List AV):Prop:=∃(lo hi:Nat) (l:List AV),r= .int .u64 lo:: .int .u64 hi::l∧lo<18446744073709551616∧hi<18446744073709551616∧(∀n,n<64->lo.testBit n=p n)∧∀n,n<64->hi.testBit n=p (n+64)
theorem qux{r cs:List AV}{o k:Nat}(hc:cs.length=4)(h:o+4<=r.length)(hk:k<o∨o+4<=k):(qBA (qBA (r.take o) cs) (r.drop (o+4)))[k]? =r[k]? :=by
 show((r.take o++cs)++r.drop (o+4))[k]? =r[k]?;have hl:(r.take o).length=o:=by simp;omega
 rcases hk with hk|hk
 ·rw[qBx (by simp;omega),qBx (by omega),List.getElem?_take,qB5 hk]
 ·rw[qBz (by simp;omega),List.getElem?_drop]
  congr 1
  simp[hc];omega
theorem quw{r cs:List AV}{o:Nat}(hc:cs.length=4)(h:o+4<=r.length):(qBA (qBA (r.take o) cs) (r.drop (o+4))).length=r.length:=by
 show((r.take o++cs)++r.drop (o+4)).length=r.length;simp[hc];omega
theorem qsk{r cs:List AV}{o:Nat}(hc:cs.length=4)(h:o+4<=r.length):((qBA (qBA (r.take o) cs) (r.drop (o+4))).drop o).take 4=cs:=by
 show(((r.take o++cs)++r.drop (o+4)).drop o).take 4=cs;have hl:(r.take o).length=o:=by simp;omega
 rw[List.append_assoc,List.drop_append_of_le_length (by omega),List.drop_of_length_le (by omega),List.nil_append,List.take_append_of_le_length (by omega),qBt (by omega)]
theorem qqu{r cs:List AV}{o o':Nat}(hc:cs.length=4)(h:o+4<=r.length)(hd:o'+4<=o∨o+4<=o'):((qBA (qBA (r.take o) cs) (r.drop (o+4))).drop o').take 4=(r.drop o').take 4:=by
 apply List.ext_getElem?;intro j
 by_cases hj:j<4
 ·rw[List.getElem?_take,List.getElem?_take,qB5 hj,qB5 hj,List.getElem?_drop,List.getElem?_drop,qux hc h (by omega)]
 ·rw[List.getElem?_take,List.getElem?_take,qB6 hj,qB6 hj]
def mayB:Int->List (Int×Tm)->Bool
 |_,[]=>true
 |last,p::l=>decide (last<p.1)&&(decide (p.1<=99)&&(decide (p.2.chk=0)&&mayB p.1 l))
def qG(n:Int):List (Int×Tm)->Option Tm
 |[]=>none
 |p::l=>if p.1=n then some p.2 else qG n l
structure BRow (m:List (Int×Tm)) (r:List AV):Prop where
 len:r.length=402
 set:qbv (λi=>(qG i m).isSome) r
 cells:∀i:Nat,i<100->∀t,qG i m=some t->(r.drop (2+i*4)).take 4=t.cells
 free:qF 0 r=true
theorem qcb(n:Int)(p:Int×Tm):∀m:List (Int×Tm),qG n (m++[p])=match qG n m with|some t=>some t|none=>if p.1=n then some p.2 else none
 |[]=>by simp[qG]
 |q::m=>by
  rw[List.cons_append,qG,qG]
  by_cases h:q.1=n
  ·rw[qB5 h,qB5 h]
  ·rw[qB6 h,qB6 h];exact qcb n p m
theorem xD{n:Int}{t:Tm}:∀{m:List (Int×Tm)},qG n m=some t->(n,t)∈m
 |[],h=>by cases h
 |q::m,h=>by
  rw[qG]at h
  by_cases hq:q.1=n
  ·rw[qB5 hq]at h;cases h;subst hq;exact List.mem_cons_self
  ·rw[qB6 hq]at h;exact List.mem_cons_of_mem _ (xD h)
theorem qge:∀{l:List (Int×Tm)} {last:Int},mayB last l=true->∀p∈l,last<p.1∧p.1<=99
 |[],_,_,p,hp=>by cases hp
 |q::l,last,h,p,hp=>by
  simp only[mayB,qBi,decide_eq_true_eq]at h;rcases qBG.1 hp with rfl|hp
  ·exact⟨h.1,h.2.1⟩
  ·have:=qge h.2.2.2 p hp;omega
theorem BRow.add{m:List (Int×Tm)}{r r':List AV}{n:Nat}{t:Tm}(h:BRow m r)(hn:n<100)(hnew:qG n m=none)(h1:qbv (λi=>(λi:Nat=>(qG i m).isSome) i||decide (i=n)) r')(h2:r'.drop 2=r.drop 2)(h3:r'.length=r.length)(h4:qF 0 r=true->qF 0 r'=true):
  BRow (m++[((n:Int),t)]) (qBA (qBA (r'.take (2+n*4)) t.cells) (r'.drop (2+n*4+4))):=by
 have hl:r'.length=402:=by rw[h3,h.len]
 have hc:t.cells.length=4:=qD t;have ho:2+n*4+4<=r'.length:=by omega
 have hd:∀j,(r'.drop (2+j))=r.drop (2+j):=by
  intro j;rw[←List.drop_drop,←List.drop_drop,h2]
 refine⟨by rw[quw hc ho,hl],?_,λi hi t' ht'=>?_,?_⟩
 ·obtain⟨lo,hi,l,rfl,a1,a2,a3,a4⟩:=h1;obtain⟨o,ho'⟩:∃o,2+n*4=o+2:=⟨n*4,by omega⟩;have lk:∀i:Nat,(qG i (m++[((n:Int),t)])).isSome=((qG i m).isSome||decide (i=n)):=by
   intro i;rw[qcb];cases hx:qG (i:Int) m with
   |some x=>rfl
   |none=>
    by_cases hi:i=n
    ·subst hi;simp
    ·have:¬((n:Int)=(i:Int)):=by omega
     simp[this,hi]
  refine⟨lo,hi,(l.take o++t.cells)++l.drop (o+4),?_,a1,a2,λi hi=>?_,λi hi=>?_⟩
  ·rw[ho'];rfl
  ·exact(a3 i hi).trans (lk i).symm
  ·exact(a4 i hi).trans (lk (i+64)).symm
 ·rw[qcb]at ht'
  by_cases hin:i=n
  ·subst hin;rw[hnew]at ht';simp at ht';subst ht';exact qsk hc ho
  ·cases hx:qG (i:Int) m with
   |none=>
    rw[hx]at ht';have:¬((n:Int)=(i:Int)):=by omega
    simp[this]at ht'
   |some x=>
    rw[hx]at ht';cases ht';rw[qqu hc ho (by omega),hd];exact h.cells i hi _ hx
 ·show qF 0 ((r'.take (2+n*4)++t.cells)++r'.drop (2+n*4+4))=true;have hf:=h4 h.free;exact qcE (qcE (qhl hf) (ql0 t)) (qhm hf)
def qeK(n:Int)(l:List (Int×Tm)):Option Tm:=if mayB (-1) l then qG n l else none
mutual
/-- is a term an expression over some variables? -/
def isG (V : List Int) : Tm → Bool
  | .mk k n s l =>
    if k = 2 then (match varT (.mk k n s l) with | none => true | some x => decide (x ∈ V))
    else if k = 9 then allG V l
    else if k = 7 then
      (match l with
       | [] => false
       | (.mk k1 _ s1 l1) :: rest =>
         if k1 = 7 then decide (rest.length = 0) && allG V l1
         else if k1 = 2 then (if s1 = [99, 111, 110, 115, 116] then decide (rest.length = 1) else decide ((rest.length : Int) ∈ opsG s1) && allG V rest)
         else false)
    else true
def allG (V : List Int) : List Tm → Bool
  | [] => true
  | t :: l => isG V t && allG V l
end
theorem qee{V:List Int}{t:Tm}(h:t.kind=2):isG V t=(match varT t with|none=>true|some x=>decide (x∈V)):=by
 obtain⟨k,n,s,l⟩:=t;simp only[Tm.kind_mk]at h;rw[isG.eq_def];simp only[];rw[qB5 h]
theorem qed{V:List Int}{t:Tm}(h:t.kind=9):isG V t=allG V t.subs:=by
 obtain⟨k,n,s,l⟩:=t;simp only[Tm.kind_mk]at h;subst h;rw[isG.eq_def];simp only[];rw[qB6 (by omega),qB5 trivial];rfl
theorem qdK{V:List Int}{t:Tm}(h:t.kind=7)(hl:t.subs=[]):isG V t=false:=by
 obtain⟨k,n,s,l⟩:=t;simp only[Tm.kind_mk,Tm.subs_mk]at h hl;subst h hl;rw[isG.eq_def];simp only[];rw[qB6 (by omega),qB6 (by omega),qB5 trivial]
theorem qdJ{V:List Int}{t f:Tm}{r:List Tm}(h:t.kind=7)(hl:t.subs=f::r):isG V t =
  if f.kind=7 then decide (r.length=0)&&allG V f.subs
  else if f.kind=2 then(if f.str=[99,111,110,115,116]then decide (r.length=1)else decide ((r.length:Int)∈opsG f.str)&&allG V r)else false:=by
 obtain⟨k,n,s,l⟩:=t;obtain⟨k1,n1,s1,l1⟩:=f;simp only[Tm.kind_mk,Tm.subs_mk]at h hl;subst h hl;rw[isG.eq_def];simp only[];rw[qB6 (by omega),qB6 (by omega),qB5 trivial];rfl
theorem qnk{V:List Int}{t:Tm}(h2:t.kind≠2)(h9:t.kind≠9)(h7:t.kind≠7):isG V t=true:=by
 obtain⟨k,n,s,l⟩:=t;simp only[Tm.kind_mk]at h2 h9 h7;rw[isG.eq_def];simp only[];rw[qB6 h2,qB6 h9,qB6 h7]
theorem qgD{V:List Int}:∀{l:List Tm},allG V l=false↔∃x∈l,isG V x=false
 |[]=>by simp[allG]
 |t::l=>by
  rw[allG,Bool.and_eq_false_iff,qgD (l:=l)];simp
def xm(V:List Int)(t:Tm):Int:=if t.chk=0 then(if isG V t then 0 else 10)else 2
end Go.Av
end
