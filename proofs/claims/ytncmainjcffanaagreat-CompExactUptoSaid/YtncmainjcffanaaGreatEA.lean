/- Several texts in one. -/
import Derived.Orders
import Derived.RowKit3
import Derived.Below
import Derived.Laws.World
import Derived.Laws.Sem
import Derived.Laws.Cells
import Derived.Laws.CopyRow
import Derived.Laws.AppendOwn
import Derived.Laws.MakeOwn
set_option maxRecDepth 100000
set_option linter.unusedSimpArgs false
set_option linter.unusedVariables false
open List renaming all_eq_true→yaC,eq_of_mem_replicate→yaD,getElem?_cons_zero→yaz,getElem?_drop→yam,getElem?_eq_getElem→yar,getElem?_eq_some_iff→yae,getElem?_map→yau,getElem?_of_mem→yaH,getElem?_set→yaM,getElem?_toArray→yaI,getElem_mem→yaf,length_append→yaF,length_drop→yaB,length_take→yaE,mem_flatMap→yaA,mem_of_getElem?→yas,mem_or_eq_of_mem_set→yaL,range→yai,replicate→yaa,size_toArray→yaJ
open Nat renaming add_assoc→yat,add_zero→yan,eq_zero_or_pos→yaj,le_refl→yab,le_trans→yac,lt_of_lt_of_le→yad,lt_or_gt_of_ne→yaN,mul_le_mul_right→yah,succ_mul→yag
open Option renaming bind_some→yaq,map_eq_some_iff→yaG,map_some→yak
open Bool renaming false_eq_true→yao
open Array renaming getD→yap,getD_eq_getD_getElem?→yaw,getElem?_eq_getElem→yal,getElem?_eq_some_iff→yay,getElem?_extract→yax,getElem?_toList→yav,length_toList→yaK
/- The values,the states and the meaning of a small language in which a Go function of this seat is told: no memory but boxes and own rows. -/
namespace Go.Proofs.YtncmainjcffanaaGreat
namespace Ev
open Go
class Nw where
  n:Nat
  on:Bool
  hm:Bool
@[reducible] instance i0:Nw:=⟨0,false,false⟩
@[reducible] def i1 (n:Nat):Nw:=⟨n,true,false⟩
@[reducible] def i2 (n:Nat):Nw:=⟨n,true,true⟩
inductive D where
  | int (k:IntKind) (n:Int)
  | bool (b:Bool)
  | str (s:ByteArray)
  | agg (cs:List D)
  | sl (sz:Nat) (xs:List D)
  | nilp
  | junk
  | rp (cs:List D)
  | clo (f:FuncId) (caps:List D)
def D.cells:D→List D
  | .agg cs=>cs
  | d=>[d]
inductive AV where
  | d (x:D)
  | n (q:Bool) (x:D)
  | fsl (sz:Nat) (xs:List D)
  | rsl (k v:Nat)
  | ptr (k v off:Nat)
  | eptr (k v sz i off:Nat)
  | clo (f:FuncId) (caps:List AV)
  | agg (cs:List AV)
  | tup (cs:List AV)
  | skip
  | junk
inductive Body where
  | dead
  | box (cs:List AV) (fz:Bool)
  | row (sz:Nat) (xs:List D) (fz:Bool)
structure Ent where
  ver:Nat
  body:Body
structure S where
  s:Nat→AV
  h:Nat→Ent
def upd {α:Type} (f:Nat→α) (i:Nat) (v:α):Nat→α:=fun j=>if j=i then v else f j
def allD (f:AV→Option D):List AV→Option (List D)
  | []=>some []
  | a :: as=>match f a with
    | some x=>match allD f as with
      | some xs=>some (x :: xs)
      | none=>none
    | none=>none
def toD (h:Nat→Ent):Nat→AV→Option D
  | _,.d x=>some x
  | _,.n _ x=>some x
  | _,.fsl sz xs=>some (.sl sz xs)
  | _,.rsl k v=>if v=(h k).ver then (match (h k).body with | .row sz xs _=>some (.sl sz xs) | _=>none) else none
  | n+1,.ptr k v off=>if v=(h k).ver then (match (h k).body with | .box cs _=>if off≤cs.length then (allD (toD h n) (cs.drop off)).map .rp else none | _=>none) else none
  | n+1,.clo f caps=>(allD (toD h n) caps).map (.clo f)
  | n+1,.agg cs=>(allD (toD h n) cs).map .agg
  | _,_=>none
def sk (h:Nat→Ent):Nat→AV→List Nat
  | _,.rsl k _=>[k]
  | n+1,.ptr k _ _=>k :: (match (h k).body with | .box cs _=>cs.flatMap (sk h n) | _=>[])
  | n+1,.clo _ caps=>caps.flatMap (sk h n)
  | n+1,.agg cs=>cs.flatMap (sk h n)
  | _,_=>[]
def Body.frz:Body→Body
  | .box cs _=>.box cs true
  | .row sz xs _=>.row sz xs true
  | .dead=>.dead
def frz (h:Nat→Ent) (ks:List Nat):Nat→Ent:=fun k=>if k ∈ ks then { h k with body:=(h k).body.frz } else h k
def deep:Nat:=6
inductive Opd where
  | t (i:Nat)
  | c (v:AV)
def Opd.ev (s:Nat→AV):Opd→AV
  | .t i=>s i
  | .c v=>v
inductive XOp where
  | mv (x:Opd)
  | nilrow (sz:Nat)
  | pick (c a b:Opd)
  | alloc (cells:List AV)
  | box (x:Opd)
  | load (n:Nat) (ag:Bool) (a:Opd)
  | store (n:Nat) (a x:Opd)
  | nilck (x:Opd)
  | bin (op:BinOp) (x y:Opd)
  | binb (op:BinOp) (x y:Opd)
  | un (op:UnOp) (x:Opd)
  | conv (k:IntKind) (x:Opd)
  | mkf (f:FuncId) (caps:List Opd)
  | mks (z:D) (sz bytes:Nat) (x:Opd)
  | slice (size:Nat) (x:Opd) (lo hi:Option Opd)
  | faddr (off:Nat) (x:Opd)
  | fld (off n:Nat) (ag:Bool) (x:Opd)
  | iaddr (size:Nat) (x i:Opd)
  | ext (x:Opd) (i:Nat)
  | len (x:Opd)
  | app (size bytes:Nat) (x y:Opd)
  | mm (mx:Bool) (x y:Opd)
  | call (f:Opd) (args:List Opd)
  | build (z:List AV) (parts:List (Nat × Nat × Opd))
  | bslice (z:D) (size n:Nat) (parts:List (Nat × Opd))
structure XOper where
  dst:Option Nat
  op:XOp
  guard:Option (Nat × Bool)
inductive XCode where
  | skip
  | region (ops:List XOper) (draw:Option (List (Bool × List Nat)))
  | seq (a b:XCode)
  | cond (c:Opd) (a b:XCode)
  | block (id:Nat) (a:XCode)
  | loop (a:XCode)
  | exit (id:Nat)
  | ret
def zx1 (l:Bool) (k:IntKind) (x y:Int):Option D :=
  if y<0 then none else some (.int k (if l then k.wrap (x*2 ^ min y.toNat k.bits) else x.fdiv (2 ^ min y.toNat k.bits)))
def intD (op:BinOp) (k:IntKind) (x y:Int):Option D :=
  match op with
  | .add=>some (.int k (k.wrap (x+y)))
  | .sub=>some (.int k (k.wrap (x - y)))
  | .mul=>some (.int k (k.wrap (x*y)))
  | .quo=>if y=0 then none else some (.int k (k.wrap (x.tdiv y)))
  | .rem=>if y=0 then none else some (.int k (x.tmod y))
  | .or=>some (.int k (k.wrap (BitVec.ofInt k.bits x ||| BitVec.ofInt k.bits y).toNat))
  | .eql=>some (.bool (x == y))
  | .neq=>some (.bool (x != y))
  | .lss=>some (.bool (decide (x<y)))
  | .leq=>some (.bool (decide (x≤y)))
  | .gtr=>some (.bool (decide (x > y)))
  | .geq=>some (.bool (decide (x ≥ y)))
  | _=>none
def binI (op:BinOp) (a b:AV):Option D :=
  match a with
  | .d (.int k x)=>match b with
    | .d (.int k' y)=>match op with
      | .shl=>zx1 true k x y
      | .shr=>zx1 false k x y
      | op=>if k=k' then intD op k x y else none
    | _=>none
  | _=>none
def binB (op:BinOp) (a b:AV):Option D :=
  match a with
  | .d (.bool x)=>match b with
    | .d (.bool y)=>match op with
      | .eql=>some (.bool (x == y))
      | .neq=>some (.bool (!(x == y)))
      | _=>none
    | _=>none
  | _=>none
def AV.one:AV→Bool
  | .d (.agg _)=>false
  | .d .junk=>false
  | .d _=>true
  | .n _ _=>true
  | .fsl _ _=>true
  | .rsl _ _=>true
  | .ptr _ _ _=>true
  | .eptr _ _ _ _ _=>true
  | .clo _ _=>true
  | _=>false
def AV.cells:AV→List AV
  | .d x=>x.cells.map .d
  | .agg cs=>cs
  | a=>[a]
def cut {α:Type} (off n:Nat) (cs:List α):Option (List α):=if off+n≤cs.length then some ((cs.drop off).take n) else none
def zrv (ag:Bool) (cs:List AV):Option AV:=if ag then some (.agg cs) else match cs with | [c]=>some c | _=>none
def zop (ag:Bool) (cs:List D):Option D:=if ag then some (.agg cs) else match cs with | [c]=>some c | _=>none
def zsg (h:Nat→Ent) (n:Nat) (ag:Bool):AV→Option AV
  | .ptr k v off=>if v=(h k).ver then (match (h k).body with | .box cs _=>(cut off n cs).bind (zrv ag) | _=>none) else none
  | .d (.rp cs)=>(cut 0 n cs).bind fun cs=>(zop ag cs).map .d
  | .eptr k v sz i off=>if v=(h k).ver then (match (h k).body with | .row sz' xs false=>if sz'=sz then (xs[i]?).bind fun y=>(cut off n y.cells).bind fun cs=>(zop ag cs).map .d else none | _=>none) else none
  | _=>none
def put {α:Type} (off:Nat) (new cs:List α):List α:=cs.take off ++ new ++ cs.drop (off+new.length)
def zla (h:Nat→Ent) (n:Nat) (a x:AV):Option (Nat→Ent) :=
  match a with
  | .ptr k v off=>if v=(h k).ver then (match (h k).body with
      | .box cs false=>if x.cells.length=n∧off+n≤cs.length∧x.cells.all AV.one=true then some (upd h k ⟨v,.box (put off x.cells cs) false⟩) else none
      | _=>none) else none
  | .eptr k v sz i off=>if v=(h k).ver then (match (h k).body with
      | .row sz' xs false=>match toD h deep x with
        | some y=>if off=0∧n=sz∧sz=sz'∧y.cells.length=n∧x.cells.all AV.one=true∧i<xs.length∧k ∉ sk h deep x then some (upd (frz h (sk h deep x)) k ⟨v,.row sz (xs.set i y) false⟩) else
          match xs[i]? with
          | some (.agg cs)=>if sz=sz'∧y.cells.length=n∧x.cells.all AV.one=true∧off+n≤cs.length∧k ∉ sk h deep x then some (upd (frz h (sk h deep x)) k ⟨v,.row sz (xs.set i (.agg (put off y.cells cs))) false⟩) else none
          | _=>none
        | none=>none
      | _=>none) else none
  | _=>none
def zis (h:Nat→Ent):AV→Option (Nat × List D)
  | .d (.sl sz xs)=>some (sz,xs)
  | .n _ (.sl sz xs)=>some (sz,xs)
  | .fsl sz xs=>some (sz,xs)
  | .rsl k v=>if v=(h k).ver then (match (h k).body with | .row sz xs _=>some (sz,xs) | _=>none) else none
  | _=>none
def zpb (h:Nat→Ent):AV→Option (Nat × List D)
  | .d (.sl sz xs)=>some (sz,xs)
  | .n _ (.sl sz xs)=>some (sz,xs)
  | .fsl sz xs=>some (sz,xs)
  | .rsl k v=>if v=(h k).ver then (match (h k).body with | .row sz xs true=>some (sz,xs) | _=>none) else none
  | _=>none
def newE (h:Nat→Ent) (k:Nat) (b:Body):Nat→Ent:=upd h k ⟨(h k).ver+1,b⟩
def zae:Nat:=140737488355328
def idx (i:Option AV) (n:Nat) (dflt:Nat):Option Nat :=
  match i with
  | none=>some dflt
  | some (.d (.int _ z))=>if 0≤z∧z≤(n:Int) then some z.toNat else none
  | _=>none
def zl4 (h:Nat→Ent) (s:Nat→AV) (z:List AV):List (Nat × Nat × Opd)→Option (List AV)
  | []=>some z
  | (off,size,x) :: ps=>if (x.ev s).cells.length=size∧off+size≤z.length∧(x.ev s).cells.all AV.one=true then zl4 h s (put off (x.ev s).cells z) ps else none
def ze2 (h:Nat→Ent) (s:Nat→AV) (size:Nat) (xs:List D):List (Nat × Opd)→Option (List D)
  | []=>some xs
  | (i,x) :: ps=>match toD h deep (x.ev s) with
    | some y=>if y.cells.length=size∧i<xs.length∧(x.ev s).cells.all AV.one=true then ze2 h s size (xs.set i y) ps else none
    | none=>none
def zdf (h:Nat→Ent) (s:Nat→AV):List (Nat × Opd)→List Nat
  | []=>[]
  | (_,x) :: ps=>sk h deep (x.ev s) ++ zdf h s ps
def act (dst:Option Nat) (st:S):XOp→Option (AV × (Nat→Ent))
  | .mv x=>some (x.ev st.s,st.h)
  | .nilrow sz=>dst.bind fun k=>some (.rsl k ((st.h k).ver+1),newE st.h k (.row sz [] false))
  | .pick c a b=>match c.ev st.s with
    | .d (.bool t)=>some (if t then a.ev st.s else b.ev st.s,st.h)
    | _=>none
  | .alloc cells=>dst.bind fun k=>some (.ptr k ((st.h k).ver+1) 0,newE st.h k (.box cells false))
  | .box x=>dst.bind fun k=>if (x.ev st.s).cells.all AV.one=true then some (.ptr k ((st.h k).ver+1) 0,newE st.h k (.box (x.ev st.s).cells false)) else none
  | .load n ag a=>(zsg st.h n ag (a.ev st.s)).map fun v=>(v,st.h)
  | .store n a x=>(zla st.h n (a.ev st.s) (x.ev st.s)).map fun h=>(.skip,h)
  | .nilck x=>match x.ev st.s with
    | .ptr k v o=>if v=(st.h k).ver then (match (st.h k).body with | .box _ _=>some (.ptr k v o,st.h) | _=>none) else none
    | .eptr k v sz j o=>if v=(st.h k).ver then (match (st.h k).body with | .row _ _ false=>some (.eptr k v sz j o,st.h) | _=>none) else none
    | .d (.rp cs)=>some (.d (.rp cs),st.h)
    | .d (.clo f cs)=>some (.d (.clo f cs),st.h)
    | _=>none
  | .bin op x y=>(binI op (x.ev st.s) (y.ev st.s)).map fun v=>(.d v,st.h)
  | .binb op x y=>(binB op (x.ev st.s) (y.ev st.s)).map fun v=>(.d v,st.h)
  | .un op x=>match op,x.ev st.s with
    | .not,.d (.bool b)=>some (.d (.bool !b),st.h)
    | .neg,.d (.int k n)=>some (.d (.int k (k.wrap (0 - n))),st.h)
    | _,_=>none
  | .conv k x=>match x.ev st.s with
    | .d (.int _ n)=>some (.d (.int k (k.wrap n)),st.h)
    | _=>none
  | .mkf f caps=>some (.clo f (caps.map (·.ev st.s)),st.h)
  | .mks z sz bytes x=>dst.bind fun k=>match x.ev st.s with
    | .d (.int .i64 n)=>if 0≤n∧n*bytes≤zae∧n≤zae then some (.rsl k ((st.h k).ver+1),newE st.h k (.row sz (yaa n.toNat z) false)) else none
    | _=>none
  | .slice size x lo hi=>match toD st.h deep (x.ev st.s) with
    | some (.sl sz xs)=>if sz=size then match idx (hi.map (·.ev st.s)) xs.length xs.length with
      | some h=>match idx (lo.map (·.ev st.s)) h 0 with
        | some l=>some (.d (.sl sz ((xs.take h).drop l)),frz st.h (sk st.h deep (x.ev st.s)))
        | none=>none
      | none=>none
      else none
    | _=>none
  | .faddr off x=>match x.ev st.s with
    | .ptr k v o=>if v=(st.h k).ver then (match (st.h k).body with | .box _ _=>some (.ptr k v (o+off),st.h) | _=>none) else none
    | .d (.rp cs)=>if off≤cs.length then some (.d (.rp (cs.drop off)),st.h) else none
    | .eptr k v sz i o=>if v=(st.h k).ver then (match (st.h k).body with | .row _ _ false=>some (.eptr k v sz i (o+off),st.h) | _=>none) else none
    | _=>none
  | .fld off n ag x=>match x.ev st.s with
    | .d (.agg cs)=>(cut off n cs).bind fun cs=>(zop ag cs).map fun v=>(.d v,st.h)
    | .agg cs=>(cut off n cs).bind fun cs=>(zrv ag cs).map fun v=>(v,st.h)
    | _=>none
  | .iaddr size x i=>match i.ev st.s with
    | .d (.int _ z)=>if 0≤z then
        match x.ev st.s with
        | .rsl k v=>if v=(st.h k).ver then (match (st.h k).body with
          | .row sz xs false=>if z<(xs.length:Int)∧sz=size then some (.eptr k v size z.toNat 0,st.h) else none
          | .row sz xs true=>match xs[z.toNat]? with
            | some y=>if sz=size then some (.d (.rp y.cells),st.h) else none
            | none=>none
          | _=>none) else none
        | x=>match zis st.h x with
          | some (sz,xs)=>match xs[z.toNat]? with
            | some y=>if sz=size then some (.d (.rp y.cells),st.h) else none
            | none=>none
          | none=>none
        else none
    | _=>none
  | .ext x i=>match x.ev st.s with
    | .tup cs=>(cs[i]?).map fun v=>(v,st.h)
    | _=>none
  | .len x=>(zis st.h (x.ev st.s)).map fun p=>(.d (.int .i64 p.2.length),st.h)
  | .app size bytes x y=>match zpb st.h (y.ev st.s) with
    | some (sy,ys)=>if sy=size then
      match x.ev st.s with
      | .rsl k v=>if v=(st.h k).ver then (match (st.h k).body with
        | .row sz xs fz=>if sz=size∧(xs.length+ys.length)*bytes≤zae then some (.rsl k (v+1),upd st.h k ⟨v+1,.row size (xs ++ ys) fz⟩) else none
        | _=>none) else none
      | .fsl sz xs=>dst.bind fun k=>if sz=size∧(xs.length+ys.length)*bytes≤zae then
          (if xs=[]∧ys ≠ [] then some (.rsl k ((st.h k).ver+2),upd st.h k ⟨(st.h k).ver+2,.row size ys false⟩) else some (.rsl k ((st.h k).ver+1),newE st.h k (.row size (xs ++ ys) true))) else none
      | _=>none
      else none
    | none=>none
  | .mm mx x y=>match x.ev st.s,y.ev st.s with
    | .d (.int k a),.d (.int k' b)=>if k=k' then some (.d (.int k (if mx then (if b > a then b else a) else (if b<a then b else a))),st.h) else none
    | _,_=>none
  | .build z parts=>(zl4 st.h st.s z parts).map fun cs=>(.agg cs,st.h)
  | .bslice z size n parts=>(ze2 st.h st.s size (yaa n z) parts).map fun xs=>(.fsl size xs,frz st.h (zdf st.h st.s parts))
  | .call _ _=>none
def D.bare1:D→Bool
  | .int _ _=>true
  | .bool _=>true
  | .str _=>true
  | .nilp=>true
  | .sl _ []=>true
  | _=>false
def D.bare:D→Bool
  | .agg cs=>cs.all D.bare1
  | d=>d.bare1
def AV.hi1:AV→Bool
  | .d x=>x.bare1
  | .n q _=>q
  | .fsl _ []=>true
  | _=>false
def AV.hi:AV→Bool
  | .d x=>x.bare
  | .agg cs=>cs.all AV.hi1
  | a=>a.hi1
def AV.hiY:AV→Bool
  | .n q _=>q
  | .fsl _ xs=>xs.all D.bare
  | .d (.sl _ xs)=>xs.all D.bare
  | _=>false
def AV.isE:AV→Bool
  | .eptr _ _ _ _ _=>true
  | _=>false
def actN [Nw] (dst:Option Nat) (st:S):XOp→Option (AV × (Nat→Ent))
  | .bslice z size n parts=>if z.bare=true∧parts.all (fun p=>(p.2.ev st.s).hi)=true then (ze2 st.h st.s size (yaa n z) parts).map fun xs=>(.n true (.sl size xs),frz st.h (zdf st.h st.s parts)) else act dst st (.bslice z size n parts)
  | .store n a x=>if Nw.hm=true∧(x.ev st.s).hi=false∧(a.ev st.s).isE=true then none else act dst st (.store n a x)
  | .app size bytes x y=>if Nw.hm=true∧(y.ev st.s).hiY=false then none else act dst st (.app size bytes x y)
  | op=>act dst st op
def actW [Nw] (dst:Option Nat) (st:S) (op:XOp):Option (AV × (Nat→Ent)):=if (Nw.on || Nw.hm)=true then actN dst st op else act dst st op
end Ev
end Go.Proofs.YtncmainjcffanaaGreat
/- What it is for memory to hold these values; what a call does,told on them. -/
namespace Go.Proofs.YtncmainjcffanaaGreat
namespace Ev
open Go
inductive Rel (St:Nat→Nat) (w:World):Value→D→Prop
  | int (k:IntKind) (n:Int):Rel St w (.int k n) (.int k n)
  | bool (b:Bool):Rel St w (.bool b) (.bool b)
  | str (s:ByteArray):Rel St w (.string s) (.str s)
  | nilp:Rel St w (.pointer none) .nilp
  | junk (v:Value):Rel St w v .junk
  | agg (vs:Array Value) (cs:List D) (hn:vs.size=cs.length) (h:∀ (j:Nat) c,cs[j]? = some c→Rel St w (vs.getD j undef) c):Rel St w (.agg vs) (.agg cs)
  | sl (A:Option Addr) (cap sz b off:Nat) (xs:List D) (hc:xs.length≤cap) (hm:xs.length≤9223372036854775807) (hs:∀ x ∈ xs,x.cells.length=sz) (ha:0<xs.length→A=some ⟨b,off,none⟩∧off+xs.length*sz≤St b)
      (val:Nat→Nat→Value) (hv:∀ (i:Nat) x,xs[i]? = some x → ∀ (j:Nat) c,x.cells[j]? = some c→w.cell? ⟨b,off+i*sz+j,none⟩=some (val i j))
      (h1:∀ (i:Nat) x,xs[i]? = some x → ∀ (j:Nat) c,x.cells[j]? = some c→(val i j).oneCell'=true)
      (hr:∀ (i:Nat) x,xs[i]? = some x → ∀ (j:Nat) c,x.cells[j]? = some c→Rel St w (val i j) c):Rel St w (.slice A xs.length cap) (.sl sz xs)
  | rp (b off:Nat) (cs:List D) (hb:off+cs.length≤St b) (val:Nat→Value) (hv:∀ (j:Nat) c,cs[j]? = some c→w.cell? ⟨b,off+j,none⟩=some (val j))
      (h1:∀ (j:Nat) c,cs[j]? = some c→(val j).oneCell'=true) (hr:∀ (j:Nat) c,cs[j]? = some c→Rel St w (val j) c):Rel St w (.pointer (some ⟨b,off,none⟩)) (.rp cs)
  | clo (f:FuncId) (vs:Array Value) (cs:List D) (hn:vs.size=cs.length) (h:∀ (j:Nat) c,cs[j]? = some c→Rel St w (vs.getD j undef) c):Rel St w (.func (.func f) #[] vs) (.clo f cs)
def cutS (q:Bool) (n:Nat) (St:Nat→Nat):Nat→Nat:=fun b=>if (decide (n≤b))=q then St b else 0
theorem zhl (q:Bool) (n:Nat) (St:Nat→Nat) (b:Nat):cutS q n St b≤St b:=by
  unfold cutS
  split
  · exact yab _
  · exact Nat.zero_le _
def rwS [Nw] (St:Nat→Nat):Nat→Nat:=if Nw.hm=true then cutS true Nw.n St else St
theorem zMm [Nw] (St:Nat→Nat) (b:Nat):rwS St b≤St b:=by
  unfold rwS
  split
  · exact zhl _ _ _ _
  · exact yab _
set_option linter.unusedSectionVars false
def zgv (w:World) (b:Nat):Prop:=∃ arr el,w.heap[b]? = some (.cells arr el (0,0))
theorem zgv.eq {w w':World} {b:Nat} (h:w'.heap[b]? = w.heap[b]?) (k:zgv w b):zgv w' b:=by
  obtain ⟨arr,el,hh⟩:=k
  exact ⟨arr,el,h.trans hh⟩
structure Keeps (St:Nat→Nat) (w:World) (St':Nat→Nat) (w':World):Prop where
  st:∀ b,St b≤St' b
  cell:∀ b i,i<St b→w'.cell? ⟨b,i,none⟩=w.cell? ⟨b,i,none⟩
  free:∀ b,0<St b→zgv w b→zgv w' b
theorem Keeps.refl (St:Nat→Nat) (w:World):Keeps St w St w:=⟨fun _=>yab _,fun _ _ _=>rfl,fun _ _ h=>h⟩
theorem Keeps.trans {St St' St'':Nat→Nat} {w w' w'':World} (h:Keeps St w St' w') (k:Keeps St' w' St'' w''):Keeps St w St'' w'' :=
  ⟨fun b=>yac (h.st b) (k.st b),fun b i hi=>(k.cell b i (yad hi (h.st b))).trans (h.cell b i hi),fun b hb hf=>k.free b (yad hb (h.st b)) (h.free b hb hf)⟩
theorem Keeps.cutS {St St':Nat→Nat} {w w':World} (h:Keeps St w St' w') (q:Bool) (n:Nat):Keeps (cutS q n St) w (cutS q n St') w' :=
  ⟨fun b=>by
    unfold Ev.cutS
    split
    · exact h.st b
    · exact yab _,fun b i hi=>h.cell b i (yad hi (zhl q n St b)),fun b hb=>h.free b (yad hb (zhl q n St b))⟩
theorem Keeps.rwS [Nw] {St St':Nat→Nat} {w w':World} (h:Keeps St w St' w'):Keeps (rwS St) w (rwS St') w':=by
  unfold Ev.rwS
  split
  · exact h.cutS _ _
  · exact h
theorem Keeps.of_le {St St':Nat→Nat} {w:World} (h:∀ b,St b≤St' b):Keeps St w St' w:=⟨h,fun _ _ _=>rfl,fun _ _ h=>h⟩
theorem zby {xs:List D} {sz i j:Nat} {x c:D} (hs:∀ x ∈ xs,x.cells.length=sz) (hi:xs[i]? = some x) (hj:x.cells[j]? = some c):i<xs.length∧j<sz∧i*sz+j<xs.length*sz:=by
  obtain ⟨h1,h2⟩:=yae.1 hi
  obtain ⟨h3,_⟩:=yae.1 hj
  have hx:=hs x (h2 ▸ yaf h1)
  refine ⟨h1,by omega,?_⟩
  have:i*sz+sz≤xs.length*sz:=by rw [← yag]; exact yah _ h1
  omega
theorem Rel.keeps {St St':Nat→Nat} {w w':World} (hk:Keeps St w St' w') {v:Value} {d:D} (h:Rel St w v d):Rel St' w' v d:=by
  induction h with
  | int k n=>exact .int k n
  | bool b=>exact .bool b
  | str s=>exact .str s
  | nilp=>exact .nilp
  | junk v=>exact .junk v
  | agg vs cs hn _ ih=>exact .agg vs cs hn ih
  | sl A cap sz b off xs hc hm hs ha val hv h1 hr ih =>
    refine .sl A cap sz b off xs hc hm hs (fun hp=>⟨(ha hp).1,yac (ha hp).2 (hk.st b)⟩) val (fun i x hi j c hj=>?_) h1 ih
    have hb:=zby hs hi hj
    rw [hk.cell b _ (by have:=(ha (by omega)).2; omega)]
    exact hv i x hi j c hj
  | rp b off cs hb val hv h1 hr ih =>
    refine .rp b off cs (yac hb (hk.st b)) val (fun j c hj=>?_) h1 ih
    have:=(yae.1 hj).1
    rw [hk.cell b _ (by omega)]
    exact hv j c hj
  | clo f vs cs hn _ ih=>exact .clo f vs cs hn ih
theorem Rel.le {St St':Nat→Nat} {w:World} (h:∀ b,St b≤St' b) {v:Value} {d:D} (r:Rel St w v d):Rel St' w v d:=r.keeps (.of_le h)
theorem Rel.up [Nw] {St:Nat→Nat} {w:World} {v:Value} {d:D} (r:Rel (rwS St) w v d):Rel St w v d:=r.le (zMm St)
theorem Rel.uncutS {q:Bool} {n:Nat} {St:Nat→Nat} {w:World} {v:Value} {d:D} (r:Rel (cutS q n St) w v d):Rel St w v d:=r.le (zhl q n St)
variable [Nw]
structure Hd where
  A:Option Addr
  cap:Nat
structure GS where
  St:Nat→Nat
  hd:Nat→Hd
inductive ARel (G:GS) (h:Nat→Ent) (w:World):Value→AV→Prop
  | d (v:Value) (x:D) (hr:Rel G.St w v x):ARel G h w v (.d x)
  | n (v:Value) (q:Bool) (x:D) (h1:v.oneCell'=true) (hr:Rel (cutS q Nw.n G.St) w v x):ARel G h w v (.n q x)
  | fsl (A:Option Addr) (n sz:Nat) (xs:List D) (hr:Rel G.St w (.slice A n n) (.sl sz xs)):ARel G h w (.slice A n n) (.fsl sz xs)
  | rsl (v:Value) (k ver:Nat) (h1:v.oneCell'=true) (hle:ver≤(h k).ver) (hv:ver=(h k).ver → ∀ sz xs fz,(h k).body = .row sz xs fz→v = .slice (G.hd k).A xs.length (G.hd k).cap):ARel G h w v (.rsl k ver)
  | ptr (v:Value) (k ver off:Nat) (h1:v.oneCell'=true) (hle:ver≤(h k).ver) (hv:ver=(h k).ver → ∀ cs fz,(h k).body = .box cs fz → ∃ b,(G.hd k).A=some ⟨b,0,none⟩∧v = .pointer (some ⟨b,off,none⟩)):ARel G h w v (.ptr k ver off)
  | eptr (v:Value) (k ver sz i off:Nat) (h1:v.oneCell'=true) (hle:ver≤(h k).ver) (hv:ver=(h k).ver → ∀ sz' xs,(h k).body = .row sz' xs false→i<xs.length ∧ ∃ b,(G.hd k).A=some ⟨b,0,none⟩∧v = .pointer (some ⟨b,i*sz+off,none⟩)):ARel G h w v (.eptr k ver sz i off)
  | clo (f:FuncId) (vs:Array Value) (cs:List AV) (hn:vs.size=cs.length) (hr:∀ (j:Nat) c,cs[j]? = some c→ARel G h w (vs.getD j undef) c):ARel G h w (.func (.func f) #[] vs) (.clo f cs)
  | agg (vs:Array Value) (cs:List AV) (hn:vs.size=cs.length) (hr:∀ (j:Nat) c,cs[j]? = some c→ARel G h w (vs.getD j undef) c):ARel G h w (.agg vs) (.agg cs)
  | tup (vs:Array Value) (cs:List AV) (hn:vs.size=cs.length) (hr:∀ (j:Nat) c,cs[j]? = some c→ARel G h w (vs.getD j undef) c):ARel G h w (.tuple vs) (.tup cs)
  | skip:ARel G h w undef .skip
  | junk (v:Value):ARel G h w v .junk
def Body.like:Body→Body→Prop
  | .dead,.dead=>True
  | .box _ _,.box _ _=>True
  | .row _ xs fz,.row _ xs' fz'=>xs.length=xs'.length∧(fz=true→fz'=true)
  | _,_=>False
theorem Body.like_refl (b:Body):b.like b:=by cases b <;> simp [Body.like]
theorem Body.like_trans {a b c:Body} (h:a.like b) (k:b.like c):a.like c:=by
  cases a <;> cases b <;> cases c <;> simp_all [Body.like]
theorem Body.like_frz (b:Body):b.like b.frz:=by cases b <;> simp [Body.like,Body.frz]
structure Ext (G:GS) (h:Nat→Ent) (w:World) (G':GS) (h':Nat→Ent) (w':World):Prop where
  keeps:Keeps G.St w G'.St w'
  ver:∀ k,(h k).ver≤(h' k).ver
  same:∀ k,(h' k).ver=(h k).ver→G'.hd k=G.hd k∧(h k).body.like (h' k).body
theorem Ext.refl (G:GS) (h:Nat→Ent) (w:World):Ext G h w G h w:=⟨.refl _ _,fun _=>yab _,fun _ _=>⟨rfl,Body.like_refl _⟩⟩
theorem Ext.trans {G G' G'':GS} {h h' h'':Nat→Ent} {w w' w'':World} (e:Ext G h w G' h' w') (f:Ext G' h' w' G'' h'' w''):Ext G h w G'' h'' w'' :=
  ⟨e.keeps.trans f.keeps,fun k=>yac (e.ver k) (f.ver k),fun k hk=>by
    have h1:=e.ver k
    have h2:=f.ver k
    obtain ⟨a1,b1⟩:=e.same k (by omega)
    obtain ⟨a2,b2⟩:=f.same k (by omega)
    exact ⟨a2.trans a1,Body.like_trans b1 b2⟩⟩
theorem ARel.ext {G G':GS} {h h':Nat→Ent} {w w':World} (e:Ext G h w G' h' w') {v:Value} {av:AV} (r:ARel G h w v av):ARel G' h' w' v av:=by
  induction r with
  | d v x hr=>exact .d v x (hr.keeps e.keeps)
  | n v q x h1 hr=>exact .n v q x h1 (hr.keeps (e.keeps.cutS q Nw.n))
  | fsl A n sz xs hr=>exact .fsl A n sz xs (hr.keeps e.keeps)
  | rsl v k ver h1 hle hv =>
    refine .rsl v k ver h1 (yac hle (e.ver k)) fun hq sz xs fz hb=>?_
    have hvk:=e.ver k
    obtain ⟨a,b⟩:=e.same k (by omega)
    rw [a]
    rw [hb] at b
    cases hbk:(h k).body with
    | dead=>rw [hbk] at b; exact b.elim
    | box cs f=>rw [hbk] at b; exact b.elim
    | row sz0 xs0 f0 =>
      rw [hbk] at b
      have:=hv (by omega) sz0 xs0 f0 hbk
      rw [this,b.1]
  | ptr v k ver off h1 hle hv =>
    refine .ptr v k ver off h1 (yac hle (e.ver k)) fun hq cs fz hb=>?_
    have hvk:=e.ver k
    obtain ⟨a,b⟩:=e.same k (by omega)
    rw [a]
    rw [hb] at b
    cases hbk:(h k).body with
    | dead=>rw [hbk] at b; exact b.elim
    | row sz xs f=>rw [hbk] at b; exact b.elim
    | box cs0 f0=>exact hv (by omega) cs0 f0 hbk
  | eptr v k ver sz i off h1 hle hv =>
    refine .eptr v k ver sz i off h1 (yac hle (e.ver k)) fun hq sz' xs hb=>?_
    have hvk:=e.ver k
    obtain ⟨a,b⟩:=e.same k (by omega)
    rw [a]
    rw [hb] at b
    cases hbk:(h k).body with
    | dead=>rw [hbk] at b; exact b.elim
    | box cs f=>rw [hbk] at b; exact b.elim
    | row sz0 xs0 f0 =>
      rw [hbk] at b
      have hf:f0=false:=by cases f0 <;> simp_all [Body.like]
      subst hf
      have h3:=hv (by omega) sz0 xs0 hbk
      rw [b.1] at h3
      exact h3
  | clo f vs cs hn _ ih=>exact .clo f vs cs hn ih
  | agg vs cs hn _ ih=>exact .agg vs cs hn ih
  | tup vs cs hn _ ih=>exact .tup vs cs hn ih
  | skip=>exact .skip
  | junk v=>exact .junk v
def zjc (G:GS) (h:Nat→Ent) (w:World) (k:Nat):Body→Prop
  | .dead=>True
  | .box cs fz=>∃ b arr el,(G.hd k).A=some ⟨b,0,none⟩∧w.heap[b]? = some (.cells arr el (0,0))∧arr.size=cs.length∧(∀ (j:Nat) c,cs[j]? = some c→ARel G h w (arr.getD j undef) c∧(arr.getD j undef).oneCell'=true)∧G.St b=if fz then arr.size else 0
  | .row sz xs true=>Rel G.St w (.slice (G.hd k).A xs.length (G.hd k).cap) (.sl sz xs) ∧
      ((G.hd k).cap=xs.length ∨ ∃ b arr el,(G.hd k).A=some ⟨b,0,none⟩∧w.heap[b]? = some (.cells arr el (0,0))∧0<sz∧arr.size=(G.hd k).cap*sz∧G.St b=xs.length*sz)
  | .row sz xs false=>((G.hd k).A=none∧(G.hd k).cap=0∧xs=[]) ∨ ∃ b arr el,(G.hd k).A=some ⟨b,0,none⟩∧w.heap[b]? = some (.cells arr el (0,0))∧arr.size=(G.hd k).cap*sz∧((G.hd k).cap=xs.length∨(0<sz∧xs.length≤(G.hd k).cap))∧xs.length≤9223372036854775807∧(∀ x ∈ xs,x.cells.length=sz) ∧
      (∀ (i:Nat) x,xs[i]? = some x → ∀ (j:Nat) c,x.cells[j]? = some c→Rel (rwS G.St) w (arr.getD (i*sz+j) undef) c∧(arr.getD (i*sz+j) undef).oneCell'=true)∧G.St b=0
def Owns (G:GS) (k:Nat) (b:Nat):Body→Prop
  | .dead=>False
  | .box _ _=>(G.hd k).A=some ⟨b,0,none⟩
  | .row _ xs fz=>(G.hd k).A=some ⟨b,0,none⟩∧(fz=true→(G.hd k).cap ≠ xs.length)
structure Inv (G:GS) (h:Nat→Ent) (w:World):Prop where
  st:∀ b,0<G.St b→b<w.heap.size
  ent:∀ k,zjc G h w k (h k).body
  apart:∀ k k' b,Owns G k b (h k).body→Owns G k' b (h k').body→k=k'
  low:Nw.n≤w.heap.size
structure Left (G:GS) (h:Nat→Ent) (w:World) (G':GS) (w':World):Prop where
  os:w'.os=w.os
  tape:w'.tape=w.tape
  output:w'.output=w.output
  size:w.heap.size≤w'.heap.size
  block:∀ b,b<w.heap.size→(∀ k,¬ Owns G k b (h k).body)→w'.heap[b]? = w.heap[b]? ∧ G'.St b=G.St b
def zat:Nat→Ent:=fun _=>⟨0,.dead⟩
def za3 (vs:List Value):Value:=match vs with
  | [v]=>v
  | _=>.tuple vs.toArray
def RelL (St:Nat→Nat) (w:World) (vs:List Value) (ds:List D):Prop:=vs.length=ds.length ∧ ∀ (j:Nat) d,ds[j]? = some d→Rel St w (vs.getD j undef) d
def zlb (P:Program) (f:FuncId):Prop:=∃ fn,P.funcs[f]? = some fn∧fn.name ≠ "runtime.NumGoroutine" ∧ fn.body.isSome=true
def Pure (P:Program) (f:FuncId) (ds rs:List D):Prop :=
  zlb P f ∧ ∀ (St:Nat→Nat) (w:World) (vs:List Value),(∀ b,0<St b→b<w.heap.size)→RelL St w vs ds →
    Calls P f vs.toArray w fun e w'=>∃ St' us,e = .returned (za3 us)∧RelL St' w' us rs∧RowKit.Below w.heap.size w w'∧(∀ b,b<w.heap.size→St' b=St b)∧(∀ b,0<St' b→b<w'.heap.size)∧(∀ b,w.heap.size≤b→0<St' b→zgv w' b)
def zi0 (P:Program) (f:FuncId) (ds rs:List D):Prop :=
  zlb P f ∧ ∀ (St:Nat→Nat) (w:World) (vs:List Value),(∀ b,0<St b→b<w.heap.size)→RelL St w vs ds →
    Calls P f vs.toArray w fun e w'=>∃ St' us,e = .returned (za3 us)∧RelL (cutS true w.heap.size St') w' us rs∧RowKit.Below w.heap.size w w'∧(∀ b,b<w.heap.size→St' b=St b)∧(∀ b,0<St' b→b<w'.heap.size)∧(∀ b,w.heap.size≤b→0<St' b→zgv w' b)
end Ev
end Go.Proofs.YtncmainjcffanaaGreat
/- How a function of the program is told in the small language. -/
namespace Go.Proofs.YtncmainjcffanaaGreat
namespace Ev
open Go
def sz? (P:Program) (t:TypeId):Option Nat:=(P.info? t).map (·.size)
def byt? (P:Program) (t:TypeId):Option Nat:=(P.info? t).map (·.bytes)
def zu0 (P:Program) (t:TypeId):Option TypeId:=match P.underlying t with | some (.slice e)=>some e | _=>none
def ag? (P:Program) (t:TypeId):Option Bool:=match P.underlying t with
  | some (.struct _)=>some true
  | some (.array _ _)=>some true
  | some _=>some false
  | none=>none
def cav (P:Program) (t:TypeId):Value→AV
  | .int k n=>.d (.int k n)
  | .bool b=>.d (.bool b)
  | .string s=>.d (.str s)
  | .pointer none=>.d .nilp
  | .nilFunc=>.d .junk
  | .slice none 0 0=>match (zu0 P t).bind (sz? P) with
    | some z=>.fsl z []
    | none=>.junk
  | _=>.junk
def copd (P:Program) (t:TypeId):Operand→Opd
  | .tmp i=>.t i
  | .const v=>.c (cav P t v)
  | .func f=>.c (.d (.clo f []))
  | .global _=>.c .junk
def zFj (P:Program):Nat→TypeId→List TypeId
  | 0,t=>[t]
  | n+1,t=>match P.underlying t with
    | some (.struct fs)=>fs.toList.flatMap fun f=>zFj P n f.type
    | _=>[t]
def zry (P:Program) (t:TypeId):Option (List AV) :=
  match (P.info? t).bind (·.zero) with
  | some z=>let cs:=z.cells.toList
    let ts:=zFj P 8 t
    if cs.length=ts.length∧z.cells.all Value.oneCell'=true then some ((cs.zip ts).map fun p=>cav P p.2 p.1) else none
  | none=>none
def AV.data:AV→Option D
  | .d x=>some x
  | .fsl z xs=>some (.sl z xs)
  | _=>none
def mkD (g:Bool) (ds:List D):Option D:=if g then some (.agg ds) else match ds with
  | [d]=>match d with
    | .agg _=>none
    | d=>some d
  | _=>none
def zy6 (P:Program) (t:TypeId):Option D :=
  (ag? P t).bind fun g=>(zry P t).bind fun cs=>(cs.mapM AV.data).bind fun ds=>if sz? P t=some ds.length then mkD g ds else none
def zu9 (P:Program) (zx2:Array Field):List (Nat × Operand)→Option (List (Nat × Nat × Opd))
  | []=>some []
  | (i,x) :: ps=>match zx2[i]?,zu9 P zx2 ps with
    | some f,some r=>(sz? P f.type).map fun n=>(f.offset,n,copd P f.type x) :: r
    | _,_=>none
def cop (P:Program) (o:Oper):Option XOp :=
  match o.op with
  | .move x=>some (.mv (copd P o.type x))
  | .assign x=>match x with
    | .const (.slice none 0 0)=>((zu0 P o.type).bind (sz? P)).map .nilrow
    | x=>some (.mv (copd P o.type x))
  | .pick c a b=>some (.pick (copd P 0 c) (copd P o.type a) (copd P o.type b))
  | .alloc e=>(zry P e).map .alloc
  | .box e x=>some (.box (copd P e x))
  | .load t a=>(sz? P t).bind fun n=>(ag? P t).map fun g=>.load n g (copd P 0 a)
  | .store t a x=>(sz? P t).map fun n=>.store n (copd P 0 a) (copd P t x)
  | .nilCheck x=>some (.nilck (copd P 0 x))
  | .binOp op xt x y yt=>match P.underlying xt with
    | some .bool=>some (.binb op (copd P xt x) (copd P yt y))
    | some (.int _)=>some (.bin op (copd P xt x) (copd P yt y))
    | _=>none
  | .unOp op xt x=>some (.un op (copd P xt x))
  | .convert src dst x=>match P.underlying src,P.underlying dst with
    | some _,some (.int k)=>some (.conv k (copd P src x))
    | _,_=>none
  | .makeFunc fn first caps=>match fn,first.toList with
    | .func f,[]=>some (.mkf f (caps.toList.map (copd P 0)))
    | _,_=>none
  | .makeSlice t l c=>match l,c with
    | .tmp l,.tmp c=>if l=c then (zu0 P t).bind fun e=>(zy6 P e).bind fun z=>(sz? P e).bind fun s=>(byt? P e).bind fun b=>if 0<s∧0<b then some (.mks z s b (.t l)) else none else none
    | _,_=>none
  | .slice t x lo hi mx=>match mx,zu0 P t with
    | none,some e=>(sz? P e).map fun n=>.slice n (copd P t x) (lo.map (copd P 0)) (hi.map (copd P 0))
    | _,_=>none
  | .fieldAddr s x f=>match P.underlying s with
    | some (.struct fs)=>(fs[f]?).bind fun fl=>(sz? P fl.type).bind fun n=>if n=0 then none else some (.faddr fl.offset (copd P 0 x))
    | _=>none
  | .field t x f=>match P.underlying t with
    | some (.struct fs)=>(fs[f]?).bind fun fl=>(sz? P fl.type).bind fun n=>(ag? P fl.type).map fun g=>.fld fl.offset n g (copd P t x)
    | _=>none
  | .indexAddr t x i=>(zu0 P t).bind fun e=>(sz? P e).map fun n=>.iaddr n (copd P t x) (copd P 0 i)
  | .extract x i=>some (.ext (copd P 0 x) i)
  | .build t parts=>match P.underlying t with
    | some (.struct fs)=>if (fs.toList.all fun f=>(sz? P f.type).isSome)=true then (zry P t).bind fun z=>(zu9 P fs parts.toList).map fun ps=>.build z ps else none
    | _=>none
  | .buildSlice t n parts=>(zu0 P t).bind fun e=>(zy6 P e).bind fun z=>(sz? P e).bind fun s=>if n*s≤16777216∧0<s then some (.bslice z s n (parts.toList.map fun p=>(p.1,copd P e p.2))) else none
  | .call c=>match c.callee,c.args.toList,c.argTypes.toList with
    | .builtin .len,[x],[t]=>(zu0 P t).map fun _=>.len (copd P t x)
    | .builtin .append,[x,y],[t,u]=>if t=u then (zu0 P t).bind fun e=>(sz? P e).bind fun s=>(byt? P e).bind fun b=>if 0<s∧0<b∧((P.info? e).bind (·.zero)).map (·.cells.size)=some s then some (.app s b (copd P t x) (copd P t y)) else none else none
    | .builtin .max,[x,y],_=>some (.mm true (copd P 0 x) (copd P 0 y))
    | .builtin .min,[x,y],_=>some (.mm false (copd P 0 x) (copd P 0 y))
    | .value f,as,ts=>if as.length=ts.length then some (.call (copd P 0 f) ((as.zip ts).map fun p=>copd P p.2 p.1)) else none
    | _,_,_=>none
  | _=>none
def zuw (P:Program) (ops:Array Oper) (n:Nat) (o:Oper):Option XOper :=
  match cop P o,o.guard with
  | some x,none=>if (o.dst.all (· < n)) then some ⟨o.dst,x,none⟩ else none
  | some x,some (j,b)=>match (ops[j]?).bind (·.dst) with
    | some d=>if (o.dst.all (· < n))∧d<n then some ⟨o.dst,x,some (d,b)⟩ else none
    | none=>none
  | none,_=>none
def zi2 (P:Program) (ops:Array Oper) (n:Nat):List Oper→Option (List XOper)
  | []=>some []
  | o :: os=>match zuw P ops n o,zi2 P ops n os with
    | some x,some xs=>some (x :: xs)
    | _,_=>none
def opdL:Opd→List Nat
  | .t i=>[i]
  | .c _=>[]
def optL:Option Opd→List Nat
  | some x=>opdL x
  | none=>[]
def zb2:XOp→List Nat
  | .mv x | .box x | .nilck x | .un _ x | .conv _ x | .mks _ _ _ x | .faddr _ x | .fld _ _ _ x | .ext x _ | .len x=>opdL x
  | .load _ _ a=>opdL a
  | .nilrow _ | .alloc _=>[]
  | .pick c a b=>opdL c ++ opdL a ++ opdL b
  | .store _ a x=>opdL a ++ opdL x
  | .bin _ x y | .binb _ x y | .app _ _ x y | .mm _ x y | .iaddr _ x y=>opdL x ++ opdL y
  | .mkf _ cs=>cs.flatMap opdL
  | .slice _ x lo hi=>opdL x ++ optL lo ++ optL hi
  | .call g as=>opdL g ++ as.flatMap opdL
  | .build _ ps=>ps.flatMap fun p=>opdL p.2.2
  | .bslice _ _ _ ps=>ps.flatMap fun p=>opdL p.2
def zuf (o:XOper):List Nat:=(match o.guard with | some (j,_)=>[j] | none=>[]) ++ zb2 o.op
def zcn (o:Oper):List Nat:=o.after.toList.filterMap fun e=>if Region.binds .any e then some e.on else none
def befs:List Oper→List Nat→List Nat
  | [],acc=>acc
  | o :: os,acc=>befs os (acc ++ [(zcn o).foldl (fun s j=>s ||| 2 ^ j ||| acc.getD j 0) 0])
def zvj (a b:XOper):Bool :=
  (match a.dst with | some d=>!(zuf b).contains d && b.dst != some d | none=>true) && (match b.dst with | some d=>!(zuf a).contains d | none=>true)
def zye:XOp→Bool
  | .mv _ | .pick _ _ _ | .bin _ _ _ | .binb _ _ _ | .un _ _ | .conv _ _ | .mkf _ _ | .fld _ _ _ _ | .ext _ _ | .mm _ _ _ | .build _ _=>true
  | _=>false
def zjq (bs:List Nat) (i j:Nat):Bool:=!(bs.getD j 0).testBit i
def zEw (l:List Oper) (xs:List XOper):Option (List (Bool × List Nat)) :=
  let bs:=befs l []
  let n:=xs.length
  let ok:=(yai n).all fun j=>(yai j).all fun i=>!zjq bs i j || (match xs[i]?,xs[j]? with | some a,some b=>zvj a b | _,_=>false)
  let prev:=(yai n).map fun j=>(yai j).filter fun i=>zjq bs i j && (match xs[i]?,xs[j]? with | some a,some b=>!zye a.op && !zye b.op | _,_=>false)
  if l.length=n∧ok=true∧(l.zipIdx.all fun p=>(zcn p.1).all (· < p.2))=true then some ((yai n).map fun j=>(prev.any fun p=>p.contains j,prev.getD j [])) else none
def zca (P:Program) (n:Nat):Code→Option XCode
  | .skip=>some .skip
  | .region _ ops dr=>match zi2 P ops n ops.toList with
    | some xs=>if dr then (zEw ops.toList xs).map fun ps=>.region xs (some ps) else some (.region xs none)
    | none=>none
  | .seq a b=>match zca P n a,zca P n b with
    | some x,some y=>some (.seq x y)
    | _,_=>none
  | .cond c a b=>match zca P n a,zca P n b with
    | some x,some y=>some (.cond (copd P 0 c) x y)
    | _,_=>none
  | .block id a=>(zca P n a).map (.block id)
  | .loop a=>(zca P n a).map .loop
  | .exit id=>some (.exit id)
  | .ret=>some .ret
  | _=>none
inductive XRes where
  | tmp (i:Nat)
  | cell (i n:Nat) (ag:Bool)
structure XFn where
  np:Nat
  nt:Nat
  res:List XRes
  code:XCode
def cres (P:Program):List ResultVar→Option (List XRes)
  | []=>some []
  | .tmp i :: rs=>(cres P rs).map (.tmp i :: ·)
  | .cell i t :: rs=>match sz? P t,ag? P t,cres P rs with
    | some n,some g,some r=>some (.cell i n g :: r)
    | _,_,_=>none
def cfn (P:Program) (fn:Func):Option XFn :=
  match fn.body with
  | some c=>if fn.name = "runtime.NumGoroutine" then none else
    match zca P fn.ntmps c,cres P fn.results.toList with
    | some x,some r=>if fn.params.size+fn.nfree≤fn.ntmps then some ⟨fn.params.size+fn.nfree,fn.ntmps,r,x⟩ else none
    | _,_=>none
  | none=>none
end Ev
end Go.Proofs.YtncmainjcffanaaGreat
/- Each operation that calls nothing does in memory what the small language tells of it: first those that leave memory alone. -/
namespace Go.Proofs.YtncmainjcffanaaGreat
namespace Ev
open Go
set_option linter.unusedSectionVars false
variable [Nw]
structure Step (G:GS) (h:Nat→Ent) (w:World) (G':GS) (h':Nat→Ent) (w':World):Prop where
  inv:Inv G' h' w'
  ext:Ext G h w G' h' w'
  left:Left G h w G' w'
  grow:∀ k b,Owns G' k b (h' k).body→(∃ k',Owns G k' b (h k').body)∨w.heap.size≤b
  fresh:∀ b,G.St b=0→0<G'.St b→zgv w' b
theorem Step.refl {G:GS} {h:Nat→Ent} {w:World} (i:Inv G h w):Step G h w G h w :=
  ⟨i,.refl _ _ _,⟨rfl,rfl,rfl,yab _,fun _ _ _=>⟨rfl,rfl⟩⟩,fun k _ h=>.inl ⟨k,h⟩,fun b h1 h2=>by omega⟩
theorem Step.trans {G G' G'':GS} {h h' h'':Nat→Ent} {w w' w'':World} (s:Step G h w G' h' w') (t:Step G' h' w' G'' h'' w''):Step G h w G'' h'' w'':=by
  refine ⟨t.inv,s.ext.trans t.ext,⟨t.left.os.trans s.left.os,t.left.tape.trans s.left.tape,t.left.output.trans s.left.output,yac s.left.size t.left.size,fun b hb hn=>?_⟩,fun k b hk=>?_,fun b h0 h2=>?_⟩
  · have h1:=s.left.block b hb hn
    have h2:=t.left.block b (yad hb s.left.size) (fun k hk=>by
      rcases s.grow k b hk with ⟨k',hk'⟩ | hle
      · exact hn k' hk'
      · omega)
    exact ⟨h2.1.trans h1.1,h2.2.trans h1.2⟩
  · rcases t.grow k b hk with ⟨k',hk'⟩ | hle
    · exact s.grow k' b hk'
    · exact .inr (yac s.left.size hle)
  · rcases yaj (G'.St b) with h1 | h1
    · exact t.fresh b h1 h2
    · exact t.ext.keeps.free b h1 (s.fresh b h0 h1)
def Did (P:Program) (G:GS) (h:Nat→Ent) (w:World) (r:Result Next) (av:AV) (h':Nat→Ent):Prop :=
  ∃ v w' G',(r = .ok (.value v) w'∨(r = .ok .skip w'∧v=undef))∧Step G h w G' h' w'∧ARel G' h' w' v av
theorem Did.same {P:Program} {G:GS} {h:Nat→Ent} {w:World} {r:Result Next} {av:AV} {v:Value} (i:Inv G h w) (hr:r = .ok (.value v) w) (ha:ARel G h w v av):Did P G h w r av h :=
  ⟨v,w,G,.inl hr,.refl i,ha⟩
def zc0 (G:GS) (h:Nat→Ent) (w:World) (a:Act) (s:Nat→AV):Prop:=∀ i,ARel G h w (a.tmps.getD i undef) (s i)
theorem zc0.ext {G G':GS} {h h':Nat→Ent} {w w':World} (e:Ext G h w G' h' w') {a:Act} {s:Nat→AV} (r:zc0 G h w a s):zc0 G' h' w' a s:=fun i=>(r i).ext e
theorem zIi (P:Program) (G:GS) (h:Nat→Ent) (w:World) (t:TypeId) (v:Value):ARel G h w v (cav P t v):=by
  unfold cav
  split
  · exact .d _ _ (.int _ _)
  · exact .d _ _ (.bool _)
  · exact .d _ _ (.str _)
  · exact .d _ _ .nilp
  · exact .d _ _ (.junk _)
  · split
    · exact .fsl _ _ _ _ (.sl none 0 _ 0 0 [] (yab _) (by simp) (by simp) (by simp) (fun _ _=>undef) (by simp) (by simp) (by simp))
    · exact .junk _
  · exact .junk _
theorem za0 (P:Program) {G:GS} {h:Nat→Ent} {w:World} {a:Act} {s:Nat→AV} (sl:zc0 G h w a s) (t:TypeId) (x:Operand):ARel G h w (a.eval x) ((copd P t x).ev s):=by
  cases x with
  | tmp i=>exact sl i
  | const v=>exact zIi P G h w t v
  | func f=>exact .d _ _ (.clo f #[] [] rfl (by simp))
  | global g=>exact .junk _
theorem ARel.of_int {G:GS} {h:Nat→Ent} {w:World} {v:Value} {k:IntKind} {n:Int} (r:ARel G h w v (.d (.int k n))):v = .int k n:=by
  cases r with | d _ _ hr=>cases hr; rfl
theorem ARel.of_bool {G:GS} {h:Nat→Ent} {w:World} {v:Value} {b:Bool} (r:ARel G h w v (.d (.bool b))):v = .bool b:=by
  cases r with | d _ _ hr=>cases hr; rfl
section
variable {P:Program} {G:GS} {h:Nat→Ent} {w:World} {a:Act} {s:Nat→AV} {o:Oper}
theorem zA4 (i:Inv G h w) (sl:zc0 G h w a s) (t:TypeId) (x:Operand) (ho:o.op = .move x∨o.op = .assign x):Did P G h w ((execOp a.eval o).run P w) ((copd P t x).ev s) h:=by
  refine Did.same i ?_ (za0 P sl t x)
  rcases ho with ho | ho <;> simp [execOp,ho,Sem.run_pure]
theorem zGk (i:Inv G h w) (sl:zc0 G h w a s) (t:TypeId) (c x y:Operand) (b:Bool) (hc:(copd P 0 c).ev s = .d (.bool b)) (ho:o.op = .pick c x y) :
    Did P G h w ((execOp a.eval o).run P w) (if b then (copd P t x).ev s else (copd P t y).ev s) h:=by
  have h1:=za0 P sl 0 c
  rw [hc] at h1
  have h2:=h1.of_bool
  have h3:=za0 P sl t x
  have h4:=za0 P sl t y
  refine Did.same (v:=if b then a.eval x else a.eval y) i ?_ ?_
  · simp [execOp,ho,h2,asBool,Sem.run_bind,Sem.run_pure]
  · cases b
    · exact h4
    · exact h3
theorem zMs (i:Inv G h w) (sl:zc0 G h w a s) (t:TypeId) (op:UnOp) (x:Operand) {av:AV} {h':Nat→Ent} (dst:Option Nat) (hact:act dst ⟨s,h⟩ (.un op (copd P t x))=some (av,h')) (ho:o.op = .unOp op t x) :
    Did P G h w ((execOp a.eval o).run P w) av h':=by
  have h1:=za0 P sl t x
  simp only [act] at hact
  split at hact
  · rename_i b hx
    rw [hx] at h1
    have h2:=h1.of_bool
    obtain ⟨rfl,rfl⟩:=by simpa using hact
    exact Did.same i (by simp [execOp,ho,h2,Op.unary,Sem.run_bind,Sem.run_pure]) (.d _ _ (.bool _))
  · rename_i k n hx
    rw [hx] at h1
    have h2:=h1.of_int
    obtain ⟨rfl,rfl⟩:=by simpa using hact
    exact Did.same i (by simp [execOp,ho,h2,Op.unary,Op.intArith,Sem.run_bind,Sem.run_pure]) (.d _ _ (.int _ _))
  · cases hact
theorem zGj (i:Inv G h w) (sl:zc0 G h w a s) (src dst':TypeId) (k:IntKind) (x:Operand) {av:AV} {h':Nat→Ent} (dst:Option Nat) (hact:act dst ⟨s,h⟩ (.conv k (copd P src x))=some (av,h'))
    {u:TypeDesc} (hs:P.underlying src=some u) (hd:P.underlying dst'=some (.int k)) (ho:o.op = .convert src dst' x):Did P G h w ((execOp a.eval o).run P w) av h':=by
  have h1:=za0 P sl src x
  simp only [act] at hact
  split at hact
  · rename_i k' n hx
    rw [hx] at h1
    have h2:=h1.of_int
    obtain ⟨rfl,rfl⟩:=by simpa using hact
    refine Did.same i ?_ (.d _ _ (.int _ _))
    simp [execOp,ho,h2,convert,underlying,program,hs,hd,Sem.run,Sem.run_bind,Sem.run_pure,Conv.intToInt]
  · cases hact
theorem zHx (i:Inv G h w) (sl:zc0 G h w a s) (mx:Bool) (x y:Operand) (ts:Array TypeId) {av:AV} {h':Nat→Ent} (dst:Option Nat) (hact:act dst ⟨s,h⟩ (.mm mx (copd P 0 x) (copd P 0 y))=some (av,h'))
    (ho:o.op = .call { callee:=.builtin (if mx then .max else .min),args:=#[x,y],argTypes:=ts }):Did P G h w ((execOp a.eval o).run P w) av h':=by
  have h1:=za0 P sl 0 x
  have h2:=za0 P sl 0 y
  simp only [act] at hact
  split at hact
  · rename_i k p k' q hx hy
    rw [hx] at h1
    rw [hy] at h2
    have h3:=h1.of_int
    have h4:=h2.of_int
    split at hact
    · rename_i hk
      subst hk
      obtain ⟨rfl,rfl⟩:=by simpa using hact
      refine Did.same i ?_ (.d _ _ (.int _ _))
      cases mx <;> simp [execOp,ho,h3,h4,resolve,invoke,builtin,Builtin.max_,Builtin.min_,Builtin.max2,Builtin.min2,Sem.run_bind,Sem.run_pure]
    · cases hact
  · cases hact
theorem zJd (i:Inv G h w) (sl:zc0 G h w a s) (x:Operand) (n:Nat) {av:AV} {h':Nat→Ent} (dst:Option Nat) (hact:act dst ⟨s,h⟩ (.ext (copd P 0 x) n)=some (av,h')) (ho:o.op = .extract x n) :
    Did P G h w ((execOp a.eval o).run P w) av h':=by
  have h1:=za0 P sl 0 x
  simp only [act] at hact
  split at hact
  · rename_i cs hx
    rw [hx] at h1
    cases hn:cs[n]? with
    | none=>simp [hn] at hact
    | some c =>
      simp only [hn,yak,Option.some.injEq,Prod.mk.injEq] at hact
      obtain ⟨rfl,rfl⟩:=hact
      generalize hv:a.eval x=v at h1
      cases h1 with
      | tup vs _ hsz hr =>
        have hlt:=(yae.1 hn).1
        have hlt':n<vs.size:=by omega
        refine Did.same (v:=vs.getD n undef) i ?_ (hr n _ hn)
        simp [execOp,ho,hv,Instr.extract,yal hlt',Sem.run_bind,Sem.run_pure]
  · cases hact
theorem ARel.d_inv {G:GS} {h:Nat→Ent} {w:World} {v:Value} {x:D} (r:ARel G h w v (.d x)):Rel G.St w v x:=by
  cases r with | d _ _ hr=>exact hr
theorem ARel.nInv {G:GS} {h:Nat→Ent} {w:World} {v:Value} {q:Bool} {x:D} (r:ARel G h w v (.n q x)):Rel G.St w v x:=by
  cases r with | n _ _ _ _ hr=>exact hr.uncutS
theorem zK8 (i:Inv G h w) (sl:zc0 G h w a s) (op:BinOp) (xt yt:TypeId) (x y:Operand) {av:AV} {h':Nat→Ent} (dst:Option Nat) (hact:act dst ⟨s,h⟩ (.bin op (copd P xt x) (copd P yt y))=some (av,h'))
    (ho:o.op = .binOp op xt x y yt):Did P G h w ((execOp a.eval o).run P w) av h':=by
  have h1:=za0 P sl xt x
  have h2:=za0 P sl yt y
  simp only [act] at hact
  cases hb:binI op ((copd P xt x).ev s) ((copd P yt y).ev s) with
  | none=>simp [hb] at hact
  | some r =>
    simp only [hb,yak,Option.some.injEq,Prod.mk.injEq] at hact
    obtain ⟨rfl,rfl⟩:=hact
    unfold binI at hb
    split at hb
    · rename_i k m hx
      split at hb
      · rename_i k' n hy
        rw [hx] at h1
        rw [hy] at h2
        have h3:=h1.of_int
        have h4:=h2.of_int
        split at hb
        · simp only [zx1] at hb
          split at hb
          · cases hb
          · rename_i hz
            simp only [Option.some.injEq] at hb
            subst hb
            exact Did.same i (by simp [execOp,ho,h3,h4,eqGuard,binOp,Op.shift,hz,Sem.run_bind,Sem.run_pure]) (.d _ _ (.int _ _))
        · simp only [zx1] at hb
          split at hb
          · cases hb
          · rename_i hz
            simp only [Option.some.injEq] at hb
            subst hb
            exact Did.same i (by simp [execOp,ho,h3,h4,eqGuard,binOp,Op.shift,hz,Sem.run_bind,Sem.run_pure]) (.d _ _ (.int _ _))
        · rename_i hn1 hn2
          split at hb
          · rename_i hk
            subst hk
            cases op <;> simp only [intD,Option.some.injEq,reduceCtorEq] at hb <;> first
              | (cases hb; done)
              | (exact absurd rfl hn1)
              | (exact absurd rfl hn2)
              | (subst hb
                 refine Did.same i ?_ (.d _ _ (by first | exact .int _ _ | exact .bool _))
                 simp [execOp,ho,h3,h4,eqGuard,binOp,Op.intArith,Op.intCmp,Op.intBits,Sem.run_bind,Sem.run_pure]
                 done)
              | (split at hb
                 · cases hb
                 · rename_i hz
                   simp only [Option.some.injEq] at hb
                   subst hb
                   refine Did.same i ?_ (.d _ _ (by first | exact .int _ _ | exact .bool _))
                   simp [execOp,ho,h3,h4,eqGuard,binOp,Op.intDiv,hz,Sem.run_bind,Sem.run_pure])
          · cases hb
      · cases hb
    · cases hb
theorem zvi {t:TypeId} (hu:P.underlying t=some .bool) (m n:Bool):(Op.equal t (.bool m) (.bool n)).run P w = .ok (m == n) w:=by
  unfold Op.equal Op.maxDepth
  unfold Op.equalIn
  simp only [underlying,program,Sem.run_bind,Sem.run,hu,Result.andThen,Sem.run_pure]
theorem zFo (i:Inv G h w) (sl:zc0 G h w a s) (op:BinOp) (xt yt:TypeId) (x y:Operand) {av:AV} {h':Nat→Ent} (dst:Option Nat) (hact:act dst ⟨s,h⟩ (.binb op (copd P xt x) (copd P yt y))=some (av,h'))
    (hu:P.underlying xt=some .bool) (ho:o.op = .binOp op xt x y yt):Did P G h w ((execOp a.eval o).run P w) av h':=by
  have h1:=za0 P sl xt x
  have h2:=za0 P sl yt y
  simp only [act] at hact
  cases hb:binB op ((copd P xt x).ev s) ((copd P yt y).ev s) with
  | none=>simp [hb] at hact
  | some r =>
    simp only [hb,yak,Option.some.injEq,Prod.mk.injEq] at hact
    obtain ⟨rfl,rfl⟩:=hact
    unfold binB at hb
    split at hb
    · rename_i m hx
      split at hb
      · rename_i n hy
        rw [hx] at h1
        rw [hy] at h2
        have h3:=h1.of_bool
        have h4:=h2.of_bool
        split at hb
        · simp only [Option.some.injEq] at hb
          subst hb
          exact Did.same i (by simp [execOp,ho,h3,h4,eqGuard,binOp,zvi hu,Sem.run_bind,Sem.run_pure]) (.d _ _ (.bool _))
        · simp only [Option.some.injEq] at hb
          subst hb
          exact Did.same i (by simp [execOp,ho,h3,h4,eqGuard,binOp,zvi hu,Sem.run_bind,Sem.run_pure]) (.d _ _ (.bool _))
        · cases hb
      · cases hb
    · cases hb
end
end Ev
end Go.Proofs.YtncmainjcffanaaGreat
/- Operations that read,and leave memory alone. -/
namespace Go.Proofs.YtncmainjcffanaaGreat
namespace Ev
open Go
set_option linter.unusedSectionVars false
variable [Nw]
theorem zjg (b off j:Nat):(⟨b,off,none⟩:Addr).add j=⟨b,off+j,none⟩:=by
  unfold Addr.add
  split <;> simp_all
theorem zqm {α:Type} {off n:Nat} {cs r:List α} (h:cut off n cs=some r):off+n≤cs.length∧r.length=n ∧ ∀ j,j<n→r[j]? = cs[off+j]?:=by
  unfold cut at h
  split at h
  · rename_i hle
    simp only [Option.some.injEq] at h
    subst h
    refine ⟨hle,by simp; omega,fun j hj=>?_⟩
    rw [List.getElem?_take_of_lt hj,yam]
  · cases h
section
variable {P:Program} {G:GS} {h:Nat→Ent} {w:World} {a:Act} {s:Nat→AV} {o:Oper}
theorem zxz {t:TypeId} {g:Bool} (hg:ag? P t=some g):(isAgg t).run P w = .ok g w:=by
  unfold ag? at hg
  cases hu:P.underlying t with
  | none=>simp [hu] at hg
  | some u =>
    cases u <;> simp [hu] at hg <;> subst hg <;> simp [isAgg,underlying,program,hu,Sem.run,Sem.run_bind,Sem.run_pure]
theorem zcr {t:TypeId} {n:Nat} (hn:sz? P t=some n):(sizeOf t).run P w = .ok n w:=by
  unfold sz? at hn
  cases hi:P.info? t with
  | none=>simp [hi] at hn
  | some i =>
    simp [hi] at hn
    subst hn
    simp [sizeOf,typeInfo,program,hi,Sem.run,Sem.run_bind,Sem.run_pure]
theorem ztm {t:TypeId} {n:Nat} {g:Bool} (hn:sz? P t=some n) (hg:ag? P t=some g) (b off:Nat) (val:Nat→Value) (hv:∀ j,j<n→w.cell? ⟨b,off+j,none⟩=some (val j)) (h1:g=false→n=1) :
    (loadVar t ⟨b,off,none⟩).run P w = .ok (if g then .agg ((yai n).map val).toArray else val 0) w:=by
  unfold loadVar
  rw [Sem.run_bind,zxz hg]
  cases g with
  | true =>
    simp only [Result.andThen,if_true,Sem.run_bind,zcr hn]
    rw [run_loadCells w ⟨b,off,none⟩ n val (fun j hj=>by rw [zjg]; exact hv j hj)]
    simp [Sem.run_pure]
  | false =>
    have:=hv 0 (by have:=h1 rfl; omega)
    simp only [yan] at this
    simp [Result.andThen,load,Sem.run,this]
theorem ztr (i:Inv G h w) (t:TypeId) {u:Value} {y r:AV} (h1:ARel G h w u y) {n:Nat} {g:Bool} (hn:sz? P t=some n) (hg:ag? P t=some g) (hl:zsg h n g y=some r) :
    ∃ ad v,u = .pointer (some ad)∧(loadVar t ad).run P w = .ok v w∧ARel G h w v r:=by
    have main:∀ (b off:Nat) (val:Nat→Value),u = .pointer (some ⟨b,off,none⟩)→(∀ j,j<n→w.cell? ⟨b,off+j,none⟩=some (val j)) →
        ∀ (cs:List AV),cs.length=n→(∀ (j:Nat) c,cs[j]? = some c→ARel G h w (val j) c)→zrv g cs=some r → ∃ ad v,u = .pointer (some ad)∧(loadVar t ad).run P w = .ok v w∧ARel G h w v r:=by
      intro b off val ha hv cs hcs hrel hwr
      have h1':g=false→n=1:=by
        intro hg'
        subst hg'
        unfold zrv at hwr
        simp only [yao,if_false] at hwr
        split at hwr
        · simpa using hcs.symm
        · cases hwr
      have hrun:=ztm (w:=w) hn hg b off val hv h1'
      refine ⟨_,_,ha,hrun,?_⟩
      · cases g with
        | true =>
          simp only [zrv,if_true,Option.some.injEq] at hwr
          subst hwr
          refine .agg _ _ (by simp [hcs]) fun j c hj=>?_
          have hlt:=(yae.1 hj).1
          have:((yai n).map val).toArray.getD j undef=val j:=by simp [yap,hcs ▸ hlt]
          simp only [this,if_true] at *
          exact hrel j c hj
        | false =>
          unfold zrv at hwr
          simp only [yao,if_false] at hwr
          split at hwr
          · rename_i c
            simp only [Option.some.injEq] at hwr
            subst hwr
            exact hrel 0 c rfl
          · cases hwr
    have mainD:∀ (b off:Nat) (val:Nat→Value),u = .pointer (some ⟨b,off,none⟩)→(∀ j,j<n→w.cell? ⟨b,off+j,none⟩=some (val j)) →
        ∀ (cs:List D),cs.length=n→(∀ (j:Nat) c,cs[j]? = some c→Rel G.St w (val j) c) → ∀ q,zop g cs=some q→r = .d q → ∃ ad v,u = .pointer (some ad)∧(loadVar t ad).run P w = .ok v w∧ARel G h w v r:=by
      intro b off val ha hv cs hcs hrel q hwr hq
      subst hq
      have h1':g=false→n=1:=by
        intro hg'
        subst hg'
        unfold zop at hwr
        simp only [yao,if_false] at hwr
        split at hwr
        · simpa using hcs.symm
        · cases hwr
      have hrun:=ztm (w:=w) hn hg b off val hv h1'
      refine ⟨_,_,ha,hrun,?_⟩
      · cases g with
        | true =>
          simp only [zop,if_true,Option.some.injEq] at hwr
          subst hwr
          refine .d _ _ (.agg _ _ (by simp [hcs]) fun j c hj=>?_)
          have hlt:=(yae.1 hj).1
          have:((yai n).map val).toArray.getD j undef=val j:=by simp [yap,hcs ▸ hlt]
          simp only [this,if_true] at *
          exact hrel j c hj
        | false =>
          unfold zop at hwr
          simp only [yao,if_false] at hwr
          split at hwr
          · rename_i c
            simp only [Option.some.injEq] at hwr
            subst hwr
            exact .d _ _ (hrel 0 c rfl)
          · cases hwr
    unfold zsg at hl
    split at hl
    · -- a box
      rename_i k v off
      split at hl
      · rename_i hver
        split at hl
        · rename_i cs fz hb
          cases hc:cut off n cs with
          | none=>simp [hc] at hl
          | some cs' =>
            simp only [hc,yaq] at hl
            obtain ⟨hle,hlen,hget⟩:=zqm hc
            have he:=i.ent k
            rw [hb] at he
            obtain ⟨b,arr,el,hA,hheap,hsz,hrel,_⟩:=he
            have hp:u = .pointer (some ⟨b,off,none⟩):=by
              cases h1 with
              | ptr _ _ _ _ hone_ hle' hv =>
                obtain ⟨b',hA',hv'⟩:=hv hver cs fz hb
                rw [hA] at hA'
                simp only [Option.some.injEq,Addr.mk.injEq] at hA'
                rw [hv',hA'.1]
            refine main b off (fun j=>arr.getD (off+j) undef) hp (fun j hj=>?_) cs' hlen (fun j c hj=>?_) hl
            · simp only [World.cell?,hheap]
              have:off+j<arr.size:=by omega
              simp [yap,this]
            · have hj':=(yae.1 hj).1
              rw [hget j (by omega)] at hj
              exact (hrel _ c hj).1
        · cases hl
      · cases hl
    · -- what is only read
      rename_i cs
      cases hc:cut 0 n cs with
      | none=>simp [hc] at hl
      | some cs' =>
        simp only [hc,yaq] at hl
        cases hq:zop g cs' with
        | none=>simp [hq] at hl
        | some q =>
          simp only [hq,yak,Option.some.injEq] at hl
          obtain ⟨hle,hlen,hget⟩:=zqm hc
          have h2:=h1.d_inv
          cases h2 with
          | rp b off _ hb val hv hone hr =>
            refine mainD b off val rfl (fun j hj=>?_) cs' hlen (fun j c hj=>?_) q hq hl.symm
            · have:j<cs.length:=by omega
              exact hv j _ (yar this)
            · have hj':=(yae.1 hj).1
              rw [hget j (by omega),Nat.zero_add] at hj
              exact hr j c hj
    · -- an element of an own row
      rename_i k v sz i0 off
      split at hl
      · rename_i hver
        split at hl
        · rename_i sz' xs hb
          split at hl
          · rename_i hsz
            subst hsz
            cases hx:xs[i0]? with
            | none=>simp [hx] at hl
            | some y =>
              simp only [hx,yaq] at hl
              cases hc:cut off n y.cells with
              | none=>simp [hc] at hl
              | some cs' =>
                simp only [hc,yaq] at hl
                cases hq:zop g cs' with
                | none=>simp [hq] at hl
                | some q =>
                  simp only [hq,yak,Option.some.injEq] at hl
                  obtain ⟨hle,hlen,hget⟩:=zqm hc
                  have he:=i.ent k
                  rw [hb] at he
                  cases h1 with
                  | eptr _ _ _ _ _ _ hone_ hle' hv =>
                    obtain ⟨hi0,b',hA',hv'⟩:=hv hver _ _ hb
                    rcases he with ⟨z1,_,_⟩ | ⟨b,arr,el,hA,hheap,hsz,hcap,hm,hcs,hrel,_⟩
                    · rw [z1] at hA'; cases hA'
                    rw [hA] at hA'
                    simp only [Option.some.injEq,Addr.mk.injEq,and_true] at hA'
                    subst hA'
                    subst hv'
                    have hyl:=hcs y (yas hx)
                    have hin:i0*sz'+sz'≤arr.size:=by
                      rw [hsz,← yag]
                      exact yah _ (by omega)
                    refine mainD b (i0*sz'+off) (fun j=>arr.getD (i0*sz'+off+j) undef) rfl (fun j hj=>?_) cs' hlen (fun j c hj=>?_) q hq hl.symm
                    · simp only [World.cell?,hheap]
                      have:i0*sz'+off+j<arr.size:=by omega
                      simp [yap,this]
                    · have hj':=(yae.1 hj).1
                      rw [hget j (by omega)] at hj
                      rw [yat]
                      exact (hrel i0 y hx (off+j) c hj).1.up
          · cases hl
        · cases hl
      · cases hl
    · cases hl
theorem zG0 (i:Inv G h w) (sl:zc0 G h w a s) (t:TypeId) (x:Operand) {n:Nat} {g:Bool} (hn:sz? P t=some n) (hg:ag? P t=some g) {av:AV} {h':Nat→Ent} (dst:Option Nat)
    (hact:act dst ⟨s,h⟩ (.load n g (copd P 0 x))=some (av,h')) (ho:o.op = .load t x):Did P G h w ((execOp a.eval o).run P w) av h':=by
  have h1:=za0 P sl 0 x
  simp only [act] at hact
  cases hl:zsg h n g ((copd P 0 x).ev s) with
  | none=>simp [hl] at hact
  | some r =>
    simp only [hl,yak,Option.some.injEq,Prod.mk.injEq] at hact
    obtain ⟨rfl,rfl⟩:=hact
    obtain ⟨ad,v,hu,hrun,hr⟩:=ztr (P:=P) i t h1 hn hg hl
    exact Did.same i (by simp [execOp,ho,Instr.loadAt,hu,Instr.sureAddr,Sem.run_bind,Sem.run_pure,hrun]) hr
theorem zE9 (i:Inv G h w) (sl:zc0 G h w a s) (x:Operand) {av:AV} {h':Nat→Ent} (dst:Option Nat) (hact:act dst ⟨s,h⟩ (.nilck (copd P 0 x))=some (av,h')) (ho:o.op = .nilCheck x) :
    Did P G h w ((execOp a.eval o).run P w) av h':=by
  have h1:=za0 P sl 0 x
  simp only [act] at hact
  split at hact
  · rename_i k v off hx
    rw [hx] at h1
    split at hact
    · rename_i hver
      split at hact
      · rename_i cs fz hb
        obtain ⟨rfl,rfl⟩:=by simpa using hact
        generalize hp:a.eval x=u at h1
        have h2:=h1
        cases h2 with
        | ptr _ _ _ _ hone_ hle hv =>
          obtain ⟨b,_,hv'⟩:=hv hver cs fz hb
          subst hv'
          exact Did.same i (by simp [execOp,ho,hp,Sem.run_pure]) h1
      · cases hact
    · cases hact
  · rename_i k v sz j off hx
    rw [hx] at h1
    split at hact
    · rename_i hver
      split at hact
      · rename_i sz' xs hb
        obtain ⟨rfl,rfl⟩:=by simpa using hact
        generalize hp:a.eval x=u at h1
        have h2:=h1
        cases h2 with
        | eptr _ _ _ _ _ _ hone_ hle hv =>
          obtain ⟨_,b,_,hv'⟩:=hv hver _ _ hb
          subst hv'
          exact Did.same i (by simp [execOp,ho,hp,Sem.run_pure]) h1
      · cases hact
    · cases hact
  · rename_i cs hx
    rw [hx] at h1
    obtain ⟨rfl,rfl⟩:=by simpa using hact
    have h2:=h1.d_inv
    generalize hp:a.eval x=v at h1 h2
    cases h2
    exact Did.same i (by simp [execOp,ho,hp,Sem.run_pure]) h1
  · rename_i f cs hx
    rw [hx] at h1
    obtain ⟨rfl,rfl⟩:=by simpa using hact
    have h2:=h1.d_inv
    generalize hp:a.eval x=v at h1 h2
    cases h2
    exact Did.same i (by simp [execOp,ho,hp,Sem.run_pure]) h1
  · cases hact
theorem zKu (i:Inv G h w) (sl:zc0 G h w a s) (t e:TypeId) (ty:TypeId) (x:Operand) (ht:P.underlying t=some (.slice e)) {av:AV} {h':Nat→Ent} (dst:Option Nat) (hact:act dst ⟨s,h⟩ (.len (copd P t x))=some (av,h'))
    (ho:o.op = .call { callee:=.builtin .len,args:=#[x],argTypes:=#[t] }):Did P G h w ((execOp a.eval o).run P w) av h':=by
  have h1:=za0 P sl t x
  simp only [act] at hact
  cases hl:zis h ((copd P t x).ev s) with
  | none=>simp [hl] at hact
  | some p =>
    obtain ⟨sz,xs⟩:=p
    simp only [hl,yak,Option.some.injEq,Prod.mk.injEq] at hact
    obtain ⟨rfl,rfl⟩:=hact
    have main:∀ A c,a.eval x = .slice A xs.length c→Did P G h w ((execOp a.eval o).run P w) (.d (.int .i64 xs.length)) h:=by
      intro A c ha
      exact Did.same i (by simp [execOp,ho,ha,resolve,invoke,builtin,Builtin.len_,underlying,program,ht,goInt,Sem.run,Sem.run_bind,Sem.run_pure]) (.d _ _ (.int _ _))
    unfold zis at hl
    split at hl
    · rename_i hx
      rw [hx] at h1
      simp only [Option.some.injEq,Prod.mk.injEq] at hl
      obtain ⟨rfl,rfl⟩:=hl
      have h2:=h1.d_inv
      generalize hp:a.eval x=v at h2
      cases h2
      exact main _ _ hp
    · rename_i hx
      rw [hx] at h1
      simp only [Option.some.injEq,Prod.mk.injEq] at hl
      obtain ⟨rfl,rfl⟩:=hl
      have h2:=h1.nInv
      generalize hp:a.eval x=v at h2
      cases h2
      exact main _ _ hp
    · rename_i hx
      rw [hx] at h1
      simp only [Option.some.injEq,Prod.mk.injEq] at hl
      obtain ⟨rfl,rfl⟩:=hl
      generalize hp:a.eval x=v at h1
      cases h1 with
      | fsl A n _ _ hr=>cases hr; exact main _ _ hp
    · rename_i k v hx
      rw [hx] at h1
      split at hl
      · rename_i hver
        split at hl
        · rename_i szr xsr fz hb
          simp only [Option.some.injEq,Prod.mk.injEq] at hl
          obtain ⟨rfl,rfl⟩:=hl
          generalize hp:a.eval x=u at h1
          cases h1 with
          | rsl _ _ _ hone_ hle hv=>exact main _ _ (hp.trans (hv hver _ _ _ hb))
        · cases hl
      · cases hl
    · cases hl
end
end Ev
end Go.Proofs.YtncmainjcffanaaGreat
/- Addresses,zx2,structs that are built: memory is left alone. -/
namespace Go.Proofs.YtncmainjcffanaaGreat
namespace Ev
open Go
set_option linter.unusedSectionVars false
variable [Nw]
section
variable {P:Program} {G:GS} {h:Nat→Ent} {w:World} {a:Act} {s:Nat→AV} {o:Oper}
theorem zIy (i:Inv G h w) (sl:zc0 G h w a s) (f:FuncId) (caps:Array Operand) {av:AV} {h':Nat→Ent} (dst:Option Nat) (hact:act dst ⟨s,h⟩ (.mkf f (caps.toList.map (copd P 0)))=some (av,h'))
    (ho:o.op = .makeFunc (.func f) #[] caps):Did P G h w ((execOp a.eval o).run P w) av h':=by
  simp only [act,Option.some.injEq,Prod.mk.injEq] at hact
  obtain ⟨rfl,rfl⟩:=hact
  refine Did.same (v:=.func (.func f) #[] (caps.map a.eval)) i (by simp [execOp,ho,Instr.makeFunc,Sem.run_bind,Sem.run_pure]) (.clo _ _ _ (by simp) fun j c hj=>?_)
  simp only [List.map_map,yau] at hj
  cases hx:caps.toList[j]? with
  | none=>simp [hx] at hj
  | some x =>
    simp only [hx,yak,Option.some.injEq,Function.comp] at hj
    subst hj
    have hlt:=(yae.1 hx).1
    have:(caps.map a.eval).getD j undef=a.eval x:=by
      rw [yav] at hx
      simp [yaw,hx]
    rw [this]
    exact za0 P sl 0 x
theorem znt {t:TypeId} {fs:Array Field} {f n:Nat} {fl:Field} (hu:P.underlying t=some (.struct fs)) (hf:fs[f]? = some fl) (hn:sz? P fl.type=some n) (hn0:n ≠ 0) (b off:Nat) :
    (Instr.fieldAt t (.pointer (some ⟨b,off,none⟩)) f).run P w = .ok (.pointer (some ⟨b,off+fl.offset,none⟩)) w:=by
  simp [Instr.fieldAt,underlying,program,hu,hf,Instr.sureAddr,fieldPlace,zcr hn,hn0,zjg,Sem.run,Sem.run_bind,Sem.run_pure]
theorem zEt (i:Inv G h w) (sl:zc0 G h w a s) (t:TypeId) (x:Operand) (f:Nat) {fs:Array Field} {n:Nat} {fl:Field} (hu:P.underlying t=some (.struct fs)) (hf:fs[f]? = some fl) (hn:sz? P fl.type=some n) (hn0:n ≠ 0)
    {av:AV} {h':Nat→Ent} (dst:Option Nat) (hact:act dst ⟨s,h⟩ (.faddr fl.offset (copd P 0 x))=some (av,h')) (ho:o.op = .fieldAddr t x f):Did P G h w ((execOp a.eval o).run P w) av h':=by
  have h1:=za0 P sl 0 x
  simp only [act] at hact
  split at hact
  · rename_i k v off hx
    rw [hx] at h1
    split at hact
    · rename_i hver
      split at hact
      · rename_i cs fz hb
        simp only [Option.some.injEq,Prod.mk.injEq] at hact
        obtain ⟨rfl,rfl⟩:=hact
        generalize hp:a.eval x=u at h1
        cases h1 with
        | ptr _ _ _ _ hone_ hle hv =>
          obtain ⟨b,hA,hv'⟩:=hv hver cs fz hb
          subst hv'
          refine Did.same (v:=.pointer (some ⟨b,off+fl.offset,none⟩)) i (by simp [execOp,ho,hp,znt hu hf hn hn0,Sem.run_bind,Sem.run_pure]) (.ptr _ _ _ _ rfl hle fun _ cs' fz' hb'=>⟨b,hA,rfl⟩)
      · cases hact
    · cases hact
  · rename_i cs hx
    rw [hx] at h1
    split at hact
    · rename_i hle
      simp only [Option.some.injEq,Prod.mk.injEq] at hact
      obtain ⟨rfl,rfl⟩:=hact
      have h2:=h1.d_inv
      generalize hp:a.eval x=u at h2
      cases h2 with
      | rp b off _ hb val hv hone hr =>
        refine Did.same (v:=.pointer (some ⟨b,off+fl.offset,none⟩)) i (by simp [execOp,ho,hp,znt hu hf hn hn0,Sem.run_bind,Sem.run_pure]) (.d _ _ (.rp b _ _ (by simp; omega) (fun j=>val (fl.offset+j)) (fun j c hj=>?_) (fun j c hj=>?_) (fun j c hj=>?_)))
        · rw [yam] at hj
          rw [yat]
          exact hv _ c hj
        · rw [yam] at hj
          exact hone _ c hj
        · rw [yam] at hj
          exact hr _ c hj
    · cases hact
  · rename_i k v sz i0 off hx
    rw [hx] at h1
    split at hact
    · rename_i hver
      split at hact
      · rename_i sz' xs hb
        simp only [Option.some.injEq,Prod.mk.injEq] at hact
        obtain ⟨rfl,rfl⟩:=hact
        generalize hp:a.eval x=u at h1
        cases h1 with
        | eptr _ _ _ _ _ _ hone_ hle hv =>
          obtain ⟨hi0,b,hA,hv'⟩:=hv hver _ xs hb
          subst hv'
          refine Did.same (v:=.pointer (some ⟨b,i0*sz+off+fl.offset,none⟩)) i (by simp [execOp,ho,hp,znt hu hf hn hn0,Sem.run_bind,Sem.run_pure]) (.eptr _ _ _ _ _ _ rfl hle fun hq sz'' xs' hb'=>?_)
          obtain ⟨hi1,b1,hA1,_⟩:=hv hq _ xs' hb'
          rw [hA] at hA1
          simp only [Option.some.injEq,Addr.mk.injEq,and_true] at hA1
          exact ⟨hi1,b,hA,by rw [yat]⟩
      · cases hact
    · cases hact
  · cases hact
theorem zBf {t:TypeId} {n:Nat} {g:Bool} (hn:sz? P t=some n) (hg:ag? P t=some g) (cs:Array Value) (off:Nat) (hle:off+n≤cs.size) (h1:g=false→n=1) :
    (part t cs off).run P w = .ok (if g then .agg (cs.extract off (off+n)) else cs.getD off undef) w:=by
  unfold part
  rw [Sem.run_bind,zxz hg]
  cases g with
  | true=>simp [Result.andThen,zcr hn,Sem.run_bind,Sem.run_pure]
  | false =>
    have hlt:off<cs.size:=by have:=h1 rfl; omega
    simp [Result.andThen,yal hlt,yap,hlt,Sem.run_pure]
theorem zJ7 (i:Inv G h w) (sl:zc0 G h w a s) (t:TypeId) (x:Operand) (f:Nat) {fs:Array Field} {n:Nat} {g:Bool} {fl:Field} (hu:P.underlying t=some (.struct fs)) (hf:fs[f]? = some fl) (hn:sz? P fl.type=some n) (hg:ag? P fl.type=some g)
    {av:AV} {h':Nat→Ent} (dst:Option Nat) (hact:act dst ⟨s,h⟩ (.fld fl.offset n g (copd P t x))=some (av,h')) (ho:o.op = .field t x f):Did P G h w ((execOp a.eval o).run P w) av h':=by
  have h1:=za0 P sl t x
  simp only [act] at hact
  split at hact
  · rename_i cs hx
    rw [hx] at h1
    cases hc:cut fl.offset n cs with
    | none=>simp [hc] at hact
    | some cs' =>
      cases hq:zop g cs' with
      | none=>simp [hc,hq] at hact
      | some q =>
        simp only [hc,hq,yaq,yak,Option.some.injEq,Prod.mk.injEq] at hact
        obtain ⟨rfl,rfl⟩:=hact
        obtain ⟨hle,hlen,hget⟩:=zqm hc
        have h2:=h1.d_inv
        generalize hp:a.eval x=u at h2
        cases h2 with
        | agg vs _ hsz hr =>
          have hg1:g=false→n=1:=by
            intro hg'
            subst hg'
            unfold zop at hq
            simp only [yao,if_false] at hq
            split at hq
            · simpa using hlen.symm
            · cases hq
          have hrun:=zBf (w:=w) hn hg vs fl.offset (by omega) hg1
          refine Did.same (v:=if g then .agg (vs.extract fl.offset (fl.offset+n)) else vs.getD fl.offset undef) i (by simp [execOp,ho,hp,Instr.field,underlying,program,hu,hf,asAgg,hrun,Sem.run,Sem.run_bind,Sem.run_pure]) ?_
          cases g with
          | true =>
            simp only [zop,if_true,Option.some.injEq] at hq
            subst hq
            refine .d _ _ (.agg _ _ (by simp [hlen]; omega) fun j c hj=>?_)
            have hj':=(yae.1 hj).1
            rw [hget j (by omega)] at hj
            have:=hr _ c hj
            have e:(vs.extract fl.offset (fl.offset+n)).getD j undef=vs.getD (fl.offset+j) undef:=by
              have hlt:fl.offset+j<vs.size:=by omega
              simp [yaw,yax,show j<min (fl.offset+n) vs.size - fl.offset by omega,yal hlt]
            rw [e]
            exact this
          | false =>
            unfold zop at hq
            simp only [yao,if_false] at hq
            split at hq
            · rename_i c
              simp only [Option.some.injEq] at hq
              subst hq
              have:=hget 0 (by have:=hg1 rfl; omega)
              exact .d _ _ (hr _ c (by simpa using this.symm))
            · cases hq
  · rename_i cs hx
    rw [hx] at h1
    cases hc:cut fl.offset n cs with
    | none=>simp [hc] at hact
    | some cs' =>
      cases hq:zrv g cs' with
      | none=>simp [hc,hq] at hact
      | some q =>
        simp only [hc,hq,yaq,yak,Option.some.injEq,Prod.mk.injEq] at hact
        obtain ⟨rfl,rfl⟩:=hact
        obtain ⟨hle,hlen,hget⟩:=zqm hc
        generalize hp:a.eval x=u at h1
        cases h1 with
        | agg vs _ hsz hr =>
          have hg1:g=false→n=1:=by
            intro hg'
            subst hg'
            unfold zrv at hq
            simp only [yao,if_false] at hq
            split at hq
            · simpa using hlen.symm
            · cases hq
          have hrun:=zBf (w:=w) hn hg vs fl.offset (by omega) hg1
          refine Did.same (v:=if g then .agg (vs.extract fl.offset (fl.offset+n)) else vs.getD fl.offset undef) i (by simp [execOp,ho,hp,Instr.field,underlying,program,hu,hf,asAgg,hrun,Sem.run,Sem.run_bind,Sem.run_pure]) ?_
          cases g with
          | true =>
            simp only [zrv,if_true,Option.some.injEq] at hq
            subst hq
            refine .agg _ _ (by simp [hlen]; omega) fun j c hj=>?_
            have hj':=(yae.1 hj).1
            rw [hget j (by omega)] at hj
            have:=hr _ c hj
            have e:(vs.extract fl.offset (fl.offset+n)).getD j undef=vs.getD (fl.offset+j) undef:=by
              have hlt:fl.offset+j<vs.size:=by omega
              simp [yaw,yax,show j<min (fl.offset+n) vs.size - fl.offset by omega,yal hlt]
            rw [e]
            exact this
          | false =>
            unfold zrv at hq
            simp only [yao,if_false] at hq
            split at hq
            · rename_i c
              simp only [Option.some.injEq] at hq
              subst hq
              have:=hget 0 (by have:=hg1 rfl; omega)
              exact hr _ c (by simpa using this.symm)
            · cases hq
  · cases hact
theorem zxo {G:GS} {h:Nat→Ent} {w:World} (i:Inv G h w) {v:Value} {av:AV} (r:ARel G h w v av) {sz:Nat} {xs:List D} (he:zis h av=some (sz,xs)) (hf:∀ k ver,av = .rsl k ver → ∀ sz' xs',(h k).body ≠ .row sz' xs' false) :
    Rel G.St w v (.sl sz xs):=by
  unfold zis at he
  split at he
  · simp only [Option.some.injEq,Prod.mk.injEq] at he
    obtain ⟨rfl,rfl⟩:=he
    exact r.d_inv
  · simp only [Option.some.injEq,Prod.mk.injEq] at he
    obtain ⟨rfl,rfl⟩:=he
    exact r.nInv
  · simp only [Option.some.injEq,Prod.mk.injEq] at he
    obtain ⟨rfl,rfl⟩:=he
    cases r with | fsl A n _ _ hr=>exact hr
  · rename_i k ver
    split at he
    · rename_i hver
      split at he
      · rename_i sz' xs' fz hb
        simp only [Option.some.injEq,Prod.mk.injEq] at he
        obtain ⟨rfl,rfl⟩:=he
        have hent:=i.ent k
        rw [hb] at hent
        cases fz with
        | false=>exact absurd hb (hf k ver rfl _ _)
        | true =>
          cases r with
          | rsl _ _ _ hone_ hle hv =>
            rw [hv hver _ _ _ hb]
            exact hent.1
      · cases he
    · cases he
  · cases he
theorem ztd {t e:TypeId} {n:Nat} (ht:P.underlying t=some (.slice e)) (hn:sz? P e=some n) (b off len cap:Nat) (k:IntKind) (z:Int) (h0:0≤z) (h1:z<(len:Int)) :
    (Instr.indexAt t (.slice (some ⟨b,off,none⟩) len cap) (.int k z)).run P w = .ok (.pointer (some ⟨b,off+z.toNat*n,none⟩)) w:=by
  simp [Instr.indexAt,asIntOf,underlying,program,ht,zcr hn,h0,h1,zjg,Sem.run,Sem.run_bind,Sem.run_pure]
theorem zDb (i:Inv G h w) (sl:zc0 G h w a s) (t e:TypeId) (x ix:Operand) {n:Nat} (ht:P.underlying t=some (.slice e)) (hn:sz? P e=some n)
    {av:AV} {h':Nat→Ent} (dst:Option Nat) (hact:act dst ⟨s,h⟩ (.iaddr n (copd P t x) (copd P 0 ix))=some (av,h')) (ho:o.op = .indexAddr t x ix):Did P G h w ((execOp a.eval o).run P w) av h':=by
  have h1:=za0 P sl t x
  have h2:=za0 P sl 0 ix
  simp only [act] at hact
  split at hact
  · rename_i k z hz
    rw [hz] at h2
    have h3:=h2.of_int
    split at hact
    · rename_i h0
      have main:∀ xs y,Rel G.St w (a.eval x) (.sl n xs)→xs[z.toNat]? = some y→Did P G h w ((execOp a.eval o).run P w) (.d (.rp y.cells)) h:=by
        intro xs y hr hy
        generalize hp:a.eval x=u at hr
        have hlt:=(yae.1 hy).1
        cases hr with
        | sl A cap _ b off _ hc hm hs ha val hv hone hr =>
          obtain ⟨hA,hst⟩:=ha (by omega)
          subst hA
          have hyn:y.cells.length=n:=hs y (yas hy)
          have hle:z.toNat*n+n≤xs.length*n:=by rw [← yag]; exact yah _ hlt
          refine Did.same (v:=.pointer (some ⟨b,off+z.toNat*n,none⟩)) i (by simp [execOp,ho,hp,h3,ztd ht hn b off xs.length cap k z h0 (by omega),Sem.run_bind,Sem.run_pure]) (.d _ _ (.rp b _ _ (by omega) (val z.toNat) (fun j c hj=>hv _ y hy j c hj) (fun j c hj=>hone _ y hy j c hj) (fun j c hj=>hr _ y hy j c hj)))
      split at hact
      · rename_i k' v hx
        rw [hx] at h1
        split at hact
        · rename_i hver
          split at hact
          · rename_i sz xs hb
            split at hact
            · rename_i hc
              obtain ⟨hlt,rfl⟩:=hc
              simp only [Option.some.injEq,Prod.mk.injEq] at hact
              obtain ⟨rfl,rfl⟩:=hact
              have hent:=i.ent k'
              rw [hb] at hent
              rcases hent with ⟨_,_,z3⟩ | ⟨b,arr,el,hA,_⟩
              · subst z3; simp at hlt; omega
              generalize hp:a.eval x=u at h1
              cases h1 with
              | rsl _ _ _ hone_ hle hv =>
                have hu:=hv hver _ _ _ hb
                subst hu
                rw [hA] at hp
                refine Did.same (v:=.pointer (some ⟨b,0+z.toNat*sz,none⟩)) i (by simp [execOp,ho,hp,h3,ztd ht hn b 0 xs.length _ k z h0 hlt,Sem.run_bind,Sem.run_pure]) (.eptr _ _ _ _ _ _ rfl hle fun _ sz' xs' hb'=>⟨by rw [hb] at hb'; cases hb'; omega,b,hA,by simp⟩)
            · cases hact
          · rename_i sz xs hb
            split at hact
            · rename_i y hy
              split at hact
              · rename_i hs
                subst hs
                simp only [Option.some.injEq,Prod.mk.injEq] at hact
                obtain ⟨rfl,rfl⟩:=hact
                refine main xs y (zxo i h1 (sz:=sz) (xs:=xs) ?_ ?_) hy
                · simp [zis,hver,hb]
                · rintro _ _ ⟨rfl,rfl⟩ sz' xs' hb'
                  rw [hb] at hb'
                  cases hb'
              · cases hact
            · cases hact
          · cases hact
        · cases hact
      · rename_i hnr
        split at hact
        · rename_i sz xs he
          split at hact
          · rename_i y hy
            split at hact
            · rename_i hs
              subst hs
              simp only [Option.some.injEq,Prod.mk.injEq] at hact
              obtain ⟨rfl,rfl⟩:=hact
              exact main xs y (zxo i h1 he fun k ver hk=>absurd hk (hnr k ver)) hy
            · cases hact
          · cases hact
        · cases hact
    · cases hact
  · cases hact
end
end Ev
end Go.Proofs.YtncmainjcffanaaGreat
/- A value told as data: its boxes and rows change no more. -/
namespace Go.Proofs.YtncmainjcffanaaGreat
namespace Ev
open Go
set_option linter.unusedSectionVars false
variable [Nw]
def Body.free:Body→Bool
  | .box _ fz=>!fz
  | .row _ _ fz=>!fz
  | .dead=>false
theorem zio {G:GS} {h:Nat→Ent} {w:World} (i:Inv G h w) {k b:Nat} (ho:Owns G k b (h k).body):b<w.heap.size:=by
  have he:=i.ent k
  have go:∀ (b':Nat) (arr:Array Value) (el:TypeId),(G.hd k).A=some ⟨b',0,none⟩→w.heap[b']? = some (.cells arr el (0,0))→(G.hd k).A=some ⟨b,0,none⟩→b<w.heap.size:=fun b' arr el hA hheap ho'=>by
    rw [hA] at ho'
    simp only [Option.some.injEq,Addr.mk.injEq,and_true] at ho'
    subst ho'
    exact (yay.1 hheap).1
  cases hb:(h k).body with
  | dead=>rw [hb] at ho; exact ho.elim
  | box cs fz =>
    rw [hb] at ho he
    obtain ⟨b',arr,el,hA,hheap,_⟩:=he
    exact go b' arr el hA hheap ho
  | row sz xs fz =>
    rw [hb] at ho he
    cases fz with
    | false =>
      rcases he with ⟨z1,_⟩ | ⟨b',arr,el,hA,hheap,_⟩
      · have:=ho.1; rw [z1] at this; cases this
      · exact go b' arr el hA hheap ho.1
    | true =>
      rcases he.2 with hc | ⟨b',arr,el,hA,hheap,_⟩
      · exact absurd hc (ho.2 rfl)
      · exact go b' arr el hA hheap ho.1
def Body.cellsN:Body→Nat
  | .box cs _=>cs.length
  | .row sz xs _=>xs.length*sz
  | .dead=>0
open Classical in
noncomputable def zch (G:GS) (h:Nat→Ent) (_w:World) (ks:List Nat):Nat→Nat:=fun b =>
  if hx:∃ k,k ∈ ks∧(h k).body.free=true∧Owns G k b (h k).body then max (G.St b) (h hx.choose).body.cellsN else G.St b
theorem zkf (G:GS) (h:Nat→Ent) (w:World) (ks:List Nat) (b:Nat):G.St b≤zch G h w ks b:=by
  unfold zch
  split
  · exact Nat.le_max_left _ _
  · exact yab _
theorem zv5 {G:GS} {h:Nat→Ent} {w:World} (i:Inv G h w) {ks:List Nat} {k b:Nat} (hk:k ∈ ks) (hf:(h k).body.free=true) (ho:Owns G k b (h k).body):zch G h w ks b=max (G.St b) (h k).body.cellsN:=by
  unfold zch
  have hx:∃ k,k ∈ ks∧(h k).body.free=true∧Owns G k b (h k).body:=⟨k,hk,hf,ho⟩
  rw [dif_pos hx]
  have:=i.apart _ _ b hx.choose_spec.2.2 ho
  rw [this]
noncomputable def frzG (G:GS) (h:Nat→Ent) (w:World) (ks:List Nat):GS:=⟨zch G h w ks,G.hd⟩
theorem zzi (h:Nat→Ent) (ks:List Nat) (k:Nat):(frz h ks k).ver=(h k).ver:=by unfold frz; split <;> rfl
theorem zwt {G:GS} {h:Nat→Ent} {w:World} (i:Inv G h w) {St:Nat→Nat} {k b:Nat} {ks:List Nat} (ho:Owns ⟨St,G.hd⟩ k b (frz h ks k).body):Owns G k b (h k).body:=by
  unfold frz at ho
  split at ho
  · cases hb:(h k).body with
    | dead=>rw [hb] at ho; exact ho
    | box cs fz=>rw [hb] at ho; exact ho
    | row sz xs fz =>
      rw [hb] at ho
      exact ⟨ho.1,fun _=>ho.2 rfl⟩
  · cases hb:(h k).body <;> (rw [hb] at ho; exact ho)
theorem zsv {G:GS} {h:Nat→Ent} {w:World} (i:Inv G h w) {ks:List Nat} {k b:Nat} (ho:Owns G k b (h k).body) (hn:k ∉ ks∨(h k).body.free=false):zch G h w ks b=G.St b:=by
  unfold zch
  rw [dif_neg]
  rintro ⟨k',hk',hf,ho'⟩
  have:=i.apart k k' b ho ho'
  subst this
  rcases hn with hn | hn
  · exact hn hk'
  · rw [hn] at hf; cases hf
theorem zDx {G:GS} {h:Nat→Ent} {w:World} (ks:List Nat):Ext G h w (frzG G h w ks) (frz h ks) w :=
  ⟨⟨zkf G h w ks,fun _ _ _=>rfl,fun _ _ h=>h⟩,fun k=>by rw [zzi]; exact yab _,fun k _=>⟨rfl,by
    unfold frz
    split
    · exact Body.like_frz _
    · exact Body.like_refl _⟩⟩
theorem zi8 {G:GS} {h:Nat→Ent} {w:World} (i:Inv G h w) {k b:Nat} (ho:Owns G k b (h k).body):zgv w b:=by
  have he:=i.ent k
  have go:∀ (b':Nat) (arr:Array Value) (el:TypeId),(G.hd k).A=some ⟨b',0,none⟩→w.heap[b']? = some (.cells arr el (0,0))→(G.hd k).A=some ⟨b,0,none⟩→zgv w b:=fun b' arr el hA hheap ho'=>by
    rw [hA] at ho'
    simp only [Option.some.injEq,Addr.mk.injEq,and_true] at ho'
    subst ho'
    exact ⟨_,_,hheap⟩
  cases hb:(h k).body with
  | dead=>rw [hb] at ho; exact ho.elim
  | box cs fz =>
    rw [hb] at he ho
    obtain ⟨b',arr,el,hA,hheap,_⟩:=he
    exact go b' arr el hA hheap ho
  | row sz xs fz =>
    rw [hb] at he ho
    cases fz with
    | true =>
      rcases he.2 with hc | ⟨b',arr,el,hA,hheap,_⟩
      · exact absurd hc (ho.2 rfl)
      · exact go b' arr el hA hheap ho.1
    | false =>
      rcases he with ⟨z1,_⟩ | ⟨b',arr,el,hA,hheap,_⟩
      · have:=ho.1
        rw [z1] at this
        cases this
      · exact go b' arr el hA hheap ho.1
theorem zbp {G:GS} {h:Nat→Ent} {w:World} (i:Inv G h w) (ks:List Nat):Step G h w (frzG G h w ks) (frz h ks) w:=by
  have hext:=zDx (G:=G) (h:=h) (w:=w) ks
  refine ⟨⟨fun b hb=>?_,fun k=>?_,fun k k' b h1 h2=>i.apart k k' b (zwt i h1) (zwt i h2),i.low⟩,hext,⟨rfl,rfl,rfl,yab _,fun b _ hn=>⟨rfl,?_⟩⟩,fun k b ho=>.inl ⟨k,zwt i ho⟩,fun b h0 h1=>by
    have h1':0<zch G h w ks b:=h1
    unfold zch at h1'
    split at h1'
    · rename_i hx
      exact zi8 i hx.choose_spec.2.2
    · omega⟩
  · -- what stays lies in memory
    simp only [frzG,zch] at hb
    split at hb
    · rename_i hx
      exact zio i hx.choose_spec.2.2
    · exact i.st b hb
  · -- each box,each row
    have he:=i.ent k
    cases hb:(h k).body with
    | dead =>
      have hbody:(frz h ks k).body = .dead:=by simp only [frz]; split <;> simp [hb,Body.frz]
      rw [hbody]
      trivial
    | box cs fz =>
      rw [hb] at he
      obtain ⟨b,arr,el,hA,hheap,hsz,hrel,hst⟩:=he
      have hown:Owns G k b (h k).body:=by rw [hb]; exact hA
      by_cases hk:k ∈ ks
      · have hbody:(frz h ks k).body = .box cs true:=by simp [frz,hk,hb,Body.frz]
        rw [hbody]
        refine ⟨b,arr,el,hA,hheap,hsz,fun j c hj=>⟨(hrel j c hj).1.ext hext,(hrel j c hj).2⟩,?_⟩
        cases fz with
        | true =>
          simp only [if_true] at hst ⊢
          show zch G h w ks b=_
          rw [zsv i hown (.inr (by rw [hb]; rfl)),hst]
        | false =>
          simp only [if_true]
          simp only [yao,if_false] at hst
          show zch G h w ks b=_
          rw [zv5 i hk (by rw [hb]; rfl) hown,hb,hst]
          simp [Body.cellsN,hsz]
      · have hbody:(frz h ks k).body = .box cs fz:=by simp [frz,hk,hb]
        rw [hbody]
        refine ⟨b,arr,el,hA,hheap,hsz,fun j c hj=>⟨(hrel j c hj).1.ext hext,(hrel j c hj).2⟩,?_⟩
        show zch G h w ks b=_
        rw [zsv i hown (.inl hk),hst]
    | row sz xs fz =>
      rw [hb] at he
      cases fz with
      | true =>
        have hbody:(frz h ks k).body = .row sz xs true:=by simp only [frz]; split <;> simp [hb,Body.frz]
        rw [hbody]
        refine ⟨he.1.keeps hext.keeps,?_⟩
        by_cases hc:(G.hd k).cap=xs.length
        · exact .inl hc
        · rcases he.2 with hc' | ⟨b,arr,el,hA,hheap,hsz0,hsz,hst⟩
          · exact absurd hc' hc
          · refine .inr ⟨b,arr,el,hA,hheap,hsz0,hsz,?_⟩
            show zch G h w ks b=_
            rw [zsv i (k:=k) (by rw [hb]; exact ⟨hA,fun _=>hc⟩) (.inr (by rw [hb]; rfl)),hst]
      | false =>
        rcases he with ⟨z1,z2,z3⟩ | ⟨b,arr,el,hA,hheap,hsz,hcap,hm,hcs,hrel,hst⟩
        · subst z3
          by_cases hk:k ∈ ks
          · have hbody:(frz h ks k).body = .row sz [] true:=by simp [frz,hk,hb,Body.frz]
            rw [hbody]
            refine ⟨?_,.inl z2⟩
            show Rel _ _ (.slice (G.hd k).A _ (G.hd k).cap) _
            rw [z1,z2]
            exact .sl none 0 sz 0 0 [] (yab _) (by simp) (by simp) (by simp) (fun _ _=>undef) (by simp) (by simp) (by simp)
          · have hbody:(frz h ks k).body = .row sz [] false:=by simp [frz,hk,hb]
            rw [hbody]
            exact .inl ⟨z1,z2,rfl⟩
        have hown:Owns G k b (h k).body:=by rw [hb]; exact ⟨hA,fun hf=>by cases hf⟩
        have hcl:xs.length≤(G.hd k).cap:=by rcases hcap with h | h <;> omega
        have hcsz:xs.length*sz≤arr.size:=by rw [hsz]; exact yah _ hcl
        by_cases hk:k ∈ ks
        · have hbody:(frz h ks k).body = .row sz xs true:=by simp [frz,hk,hb,Body.frz]
          rw [hbody]
          have hst':zch G h w ks b=xs.length*sz:=by
            rw [zv5 i hk (by rw [hb]; rfl) hown,hb,hst]
            simp [Body.cellsN]
          refine ⟨?_,?_⟩
          · refine .sl _ _ sz b 0 xs hcl hm hcs (fun _=>⟨hA,by show 0+_≤zch G h w ks b; rw [hst']; omega⟩) (fun i j=>arr.getD (i*sz+j) undef) (fun i x hi j c hj=>?_) (fun i x hi j c hj=>(hrel i x hi j c hj).2) (fun i x hi j c hj=>(hrel i x hi j c hj).1.up.keeps hext.keeps)
            have:=(zby hcs hi hj).2.2
            simp only [World.cell?,hheap]
            have hlt:i*sz+j<arr.size:=by omega
            simp [hlt]
          · rcases hcap with hc | ⟨h0,_⟩
            · exact .inl hc
            · exact .inr ⟨b,arr,el,hA,hheap,h0,hsz,hst'⟩
        · have hbody:(frz h ks k).body = .row sz xs false:=by simp [frz,hk,hb]
          rw [hbody]
          refine .inr ⟨b,arr,el,hA,hheap,hsz,hcap,hm,hcs,fun i x hi j c hj=>⟨(hrel i x hi j c hj).1.keeps hext.keeps.rwS,(hrel i x hi j c hj).2⟩,?_⟩
          show zch G h w ks b=_
          rw [zsv i hown (.inl hk),hst]
  · -- the other blocks
    show zch G h w ks b=G.St b
    unfold zch
    rw [dif_neg]
    rintro ⟨k,_,_,ho⟩
    exact hn k ho
theorem ze1 {f:AV→Option D}:∀ {as:List AV} {xs:List D},allD f as=some xs→as.length=xs.length ∧ ∀ (j:Nat) a,as[j]? = some a → ∃ x,xs[j]? = some x∧f a=some x
  | [],xs,h=>by
    simp only [allD,Option.some.injEq] at h
    subst h
    simp
  | a :: as,xs,h=>by
    simp only [allD] at h
    split at h
    · rename_i x hx
      split at h
      · rename_i ys hys
        simp only [Option.some.injEq] at h
        subst h
        obtain ⟨h1,h2⟩:=ze1 hys
        refine ⟨by simp [h1],fun j b hj=>?_⟩
        cases j with
        | zero =>
          simp only [yaz,Option.some.injEq] at hj
          subst hj
          exact ⟨x,rfl,hx⟩
        | succ j=>simpa using h2 j b (by simpa using hj)
      · cases h
    · cases h
theorem zv0 (h:Nat→Ent) (n:Nat) (x:D):toD h n (.d x)=some x:=by cases n <;> rfl
theorem zHv (h:Nat→Ent) (n:Nat) (q:Bool) (x:D):toD h n (.n q x)=some x:=by cases n <;> rfl
theorem sk_n (h:Nat→Ent) (n:Nat) (q:Bool) (x:D):sk h n (.n q x)=[]:=by cases n <;> rfl
theorem zup (h:Nat→Ent) (n:Nat) (sz:Nat) (xs:List D):toD h n (.fsl sz xs)=some (.sl sz xs):=by cases n <;> rfl
theorem sk_d (h:Nat→Ent) (n:Nat) (x:D):sk h n (.d x)=[]:=by cases n <;> rfl
theorem zNh (h:Nat→Ent) (n:Nat) (sz:Nat) (xs:List D):sk h n (.fsl sz xs)=[]:=by cases n <;> rfl
theorem zmm (h:Nat→Ent) (n k v:Nat):toD h n (.rsl k v)=if v=(h k).ver then (match (h k).body with | .row sz xs _=>some (.sl sz xs) | _=>none) else none:=by cases n <;> rfl
theorem zll (h:Nat→Ent) (n k v:Nat):sk h n (.rsl k v)=[k]:=by cases n <;> rfl
theorem zr5 {G:GS} {h:Nat→Ent} {w:World} (i:Inv G h w) (ks:List Nat):∀ (n:Nat) {v:Value} {av:AV} {x:D},ARel G h w v av→toD h n av=some x→(∀ k ∈ sk h n av,k ∈ ks)→Rel (zch G h w ks) w v x:=by
  have hext:=zDx (G:=G) (h:=h) (w:=w) ks
  have hst:=zbp i ks
  have hd:∀ {v:Value} {x y:D} {n:Nat},ARel G h w v (.d x)→toD h n (.d x)=some y→Rel (zch G h w ks) w v y:=by
    intro v x y n r ht
    rw [zv0] at ht
    cases ht
    exact r.d_inv.keeps hext.keeps
  have hn:∀ {v:Value} {q:Bool} {x y:D} {n:Nat},ARel G h w v (.n q x)→toD h n (.n q x)=some y→Rel (zch G h w ks) w v y:=by
    intro v q x y n r ht
    rw [zHv] at ht
    cases ht
    exact r.nInv.keeps hext.keeps
  have hf:∀ {v:Value} {sz:Nat} {xs:List D} {y:D} {n:Nat},ARel G h w v (.fsl sz xs)→toD h n (.fsl sz xs)=some y→Rel (zch G h w ks) w v y:=by
    intro v sz xs y n r ht
    rw [zup] at ht
    cases ht
    cases r with | fsl A n _ _ hr=>exact hr.keeps hext.keeps
  have hrow:∀ {v:Value} {k ver:Nat} {y:D} {n:Nat},ARel G h w v (.rsl k ver)→toD h n (.rsl k ver)=some y→(∀ q ∈ sk h n (.rsl k ver),q ∈ ks)→Rel (zch G h w ks) w v y:=by
    intro v k ver y n r ht hk
    rw [zmm] at ht
    rw [zll] at hk
    have hk':=hk k (by simp)
    split at ht
    · rename_i hver
      split at ht
      · rename_i sz xs fz hb
        cases ht
        have he:=hst.inv.ent k
        have hbody:(frz h ks k).body = .row sz xs true:=by simp [frz,hk',hb,Body.frz]
        rw [hbody] at he
        cases r with
        | rsl _ _ _ hone_ hle hv =>
          rw [hv hver _ _ _ hb]
          exact he.1
      · cases ht
    · cases ht
  intro n
  induction n with
  | zero =>
    intro v av x r ht hk
    cases av with
    | d y=>exact hd r ht
    | n q y=>exact hn r ht
    | fsl sz xs=>exact hf r ht
    | rsl k ver=>exact hrow r ht hk
    | _=>simp [toD] at ht
  | succ n ih =>
    intro v av x r ht hk
    cases av with
    | d y=>exact hd r ht
    | n q y=>exact hn r ht
    | fsl sz xs=>exact hf r ht
    | rsl k ver=>exact hrow r ht hk
    | ptr k ver off =>
      simp only [toD] at ht
      split at ht
      · rename_i hver
        split at ht
        · rename_i cs fz hb
          by_cases h0:off≤cs.length
          case neg=>simp [h0] at ht
          rw [if_pos h0] at ht
          cases ha:allD (toD h n) (cs.drop off) with
          | none=>simp [ha] at ht
          | some ds =>
            simp only [ha,yak,Option.some.injEq] at ht
            subst ht
            have hk':k ∈ ks:=hk k (by simp [sk])
            have hsub:∀ (j:Nat) (c:AV),cs[j]? = some c → ∀ q ∈ sk h n c,q ∈ ks:=by
              intro j c hj q hq
              refine hk q ?_
              simp only [sk,hb,List.mem_cons,yaA]
              exact .inr ⟨c,yas hj,hq⟩
            have he:=hst.inv.ent k
            have hbody:(frz h ks k).body = .box cs true:=by simp [frz,hk',hb,Body.frz]
            rw [hbody] at he
            obtain ⟨b,arr,el,hA,hheap,hsz,hrel,hstb⟩:=he
            have he0:=i.ent k
            rw [hb] at he0
            obtain ⟨b0,arr0,el0,hA0,hheap0,hsz0,hrel0,_⟩:=he0
            have hA':(G.hd k).A=some ⟨b,0,none⟩:=hA
            rw [hA'] at hA0
            simp only [Option.some.injEq,Addr.mk.injEq,and_true] at hA0
            subst hA0
            rw [hheap] at hheap0
            simp only [Option.some.injEq,Obj.cells.injEq,and_true] at hheap0
            obtain ⟨rfl,rfl⟩:=hheap0
            obtain ⟨hlen,hget⟩:=ze1 ha
            cases r with
            | ptr _ _ _ _ hone_ hle hv =>
              obtain ⟨b',hAb,hv'⟩:=hv hver cs fz hb
              rw [hA'] at hAb
              simp only [Option.some.injEq,Addr.mk.injEq,and_true] at hAb
              subst hAb
              subst hv'
              simp only [if_true] at hstb
              have hds:ds.length=cs.length - off:=by rw [← hlen,yaB]
              have hcell:∀ (j:Nat) c,ds[j]? = some c→off+j<cs.length ∧ ∃ av,cs[off+j]? = some av∧toD h n av=some c:=by
                intro j c hj
                have hj':=(yae.1 hj).1
                have hlt:off+j<cs.length:=by omega
                have h1:(cs.drop off)[j]? = some cs[off+j]:=by rw [yam,yar hlt]
                obtain ⟨c',hc',ht'⟩:=hget j _ h1
                rw [hc'] at hj
                cases hj
                exact ⟨hlt,_,yar hlt,ht'⟩
              · refine .rp b off ds ?_ (fun j=>arr.getD (off+j) undef) (fun j c hj=>?_) (fun j c hj=>?_) (fun j c hj=>?_)
                · show _≤zch G h w ks b
                  have:zch G h w ks b=arr.size:=hstb
                  omega
                · obtain ⟨hlt,_⟩:=hcell j c hj
                  simp only [World.cell?,hheap]
                  have:off+j<arr.size:=by omega
                  simp [this]
                · obtain ⟨hlt,av,hav,_⟩:=hcell j c hj
                  exact (hrel0 _ _ hav).2
                · obtain ⟨hlt,av,hav,ht'⟩:=hcell j c hj
                  exact ih (hrel0 _ _ hav).1 ht' (hsub _ _ hav)
        · cases ht
      · cases ht
    | clo f caps =>
      simp only [toD] at ht
      cases ha:allD (toD h n) caps with
      | none=>simp [ha] at ht
      | some ds =>
        simp only [ha,yak,Option.some.injEq] at ht
        subst ht
        obtain ⟨hlen,hget⟩:=ze1 ha
        cases r with
        | clo _ vs _ hn hr =>
          refine .clo f vs ds (by omega) fun j c hj=>?_
          have hj':=(yae.1 hj).1
          have hlt:j<caps.length:=by omega
          obtain ⟨c',hc',ht'⟩:=hget j _ (yar hlt)
          rw [hc'] at hj
          cases hj
          refine ih (hr j _ (yar hlt)) ht' fun q hq=>hk q ?_
          simp only [sk,yaA]
          exact ⟨_,yaf hlt,hq⟩
    | agg cs =>
      simp only [toD] at ht
      cases ha:allD (toD h n) cs with
      | none=>simp [ha] at ht
      | some ds =>
        simp only [ha,yak,Option.some.injEq] at ht
        subst ht
        obtain ⟨hlen,hget⟩:=ze1 ha
        cases r with
        | agg vs _ hn hr =>
          refine .agg vs ds (by omega) fun j c hj=>?_
          have hj':=(yae.1 hj).1
          have hlt:j<cs.length:=by omega
          obtain ⟨c',hc',ht'⟩:=hget j _ (yar hlt)
          rw [hc'] at hj
          cases hj
          refine ih (hr j _ (yar hlt)) ht' fun q hq=>hk q ?_
          simp only [sk,yaA]
          exact ⟨_,yaf hlt,hq⟩
    | _=>simp [toD] at ht
end Ev
end Go.Proofs.YtncmainjcffanaaGreat
/- New boxes and rows; what is written. -/
namespace Go.Proofs.YtncmainjcffanaaGreat
namespace Ev
open Go
set_option linter.unusedSectionVars false
variable [Nw]
theorem zsy {G:GS} {h:Nat→Ent} {w:World} (i:Inv G h w) (k:Nat) (body:Body) (hd:Hd) (St':Nat→Nat) (w':World)
    (hos:w'.os=w.os) (htape:w'.tape=w.tape) (hout:w'.output=w.output) (hsize:w.heap.size≤w'.heap.size) (hblock:∀ b,b<w.heap.size→w'.heap[b]? = w.heap[b]?)
    (hst:∀ b,b<w.heap.size→St' b=G.St b) (hst':∀ b,0<St' b→b<w'.heap.size) (hfr:∀ b,w.heap.size≤b→0<St' b→zgv w' b)
    (hent:Ext G h w ⟨St',upd G.hd k hd⟩ (newE h k body) w'→zjc ⟨St',upd G.hd k hd⟩ (newE h k body) w' k body)
    (hown:∀ b,Owns ⟨St',upd G.hd k hd⟩ k b body→w.heap.size≤b) :
    Step G h w ⟨St',upd G.hd k hd⟩ (newE h k body) w':=by
  have hk:(newE h k body k).body=body:=by simp [newE,upd]
  have hother:∀ q,q ≠ k→newE h k body q=h q∧upd G.hd k hd q=G.hd q:=fun q hq=>by simp [newE,upd,hq]
  have hext:Ext G h w ⟨St',upd G.hd k hd⟩ (newE h k body) w':=by
    refine ⟨⟨fun b=>?_,fun b j hj=>?_,fun b hb hf=>hf.eq (hblock b (i.st b hb))⟩,fun q=>?_,fun q hq=>?_⟩
    · show G.St b≤St' b
      rcases Nat.lt_or_ge b w.heap.size with hb | hb
      · rw [hst b hb]; exact yab _
      · have:¬ 0<G.St b:=fun hp=>by have:=i.st b hp; omega
        omega
    · have hb:=i.st b (by omega)
      exact World.cell?_of_block (w:=w) (a:=⟨b,j,none⟩) (hblock b hb)
    · by_cases hqk:q=k
      · subst hqk; simp [newE,upd]
      · rw [(hother q hqk).1]; exact yab _
    · by_cases hqk:q=k
      · subst hqk; simp [newE,upd] at hq
      · exact ⟨(hother q hqk).2,by rw [(hother q hqk).1]; exact Body.like_refl _⟩
  have hOw:∀ q b,q ≠ k→(Owns ⟨St',upd G.hd k hd⟩ q b (newE h k body q).body ↔ Owns G q b (h q).body):=by
    intro q b hq
    obtain ⟨h1,h2⟩:=hother q hq
    rw [h1]
    cases (h q).body <;> simp only [Owns,h2]
  refine ⟨⟨hst',fun q=>?_,fun q q' b h1 h2=>?_,yac i.low hsize⟩,hext,⟨hos,htape,hout,hsize,fun b hb _=>⟨hblock b hb,hst b hb⟩⟩,fun q b ho=>?_,fun b h0 h1=>by
    rcases Nat.lt_or_ge b w.heap.size with hb | hb
    · have:=hst b hb
      have h1':0<St' b:=h1
      omega
    · exact hfr b hb h1⟩
  · by_cases hq:q=k
    · subst hq; rw [hk]; exact hent hext
    · obtain ⟨h1,h2⟩:=hother q hq
      rw [h1]
      have he:=i.ent q
      cases hb:(h q).body with
      | dead=>trivial
      | box cs fz =>
        rw [hb] at he
        obtain ⟨b,arr,el,hA,hheap,hsz,hrel,hs⟩:=he
        have hlt:=(yay.1 hheap).1
        exact ⟨b,arr,el,by show (upd G.hd k hd q).A=_; rw [h2]; exact hA,(hblock b hlt).trans hheap,hsz,fun j c hj=>⟨(hrel j c hj).1.ext hext,(hrel j c hj).2⟩,(hst b hlt).trans hs⟩
      | row sz xs fz =>
        rw [hb] at he
        cases fz with
        | true =>
          refine ⟨?_,?_⟩
          · show Rel St' w' (.slice (upd G.hd k hd q).A _ (upd G.hd k hd q).cap) _
            rw [h2]
            exact he.1.keeps hext.keeps
          · show (upd G.hd k hd q).cap=_∨_
            rw [h2]
            rcases he.2 with hc | ⟨b,arr,el,hA,hheap,h0,hsz,hs⟩
            · exact .inl hc
            · have hlt:=(yay.1 hheap).1
              exact .inr ⟨b,arr,el,by show (upd G.hd k hd q).A=_; rw [h2]; exact hA,(hblock b hlt).trans hheap,h0,by show _=(upd G.hd k hd q).cap*_; rw [h2]; exact hsz,(hst b hlt).trans hs⟩
        | false =>
          rcases he with ⟨z1,z2,z3⟩ | ⟨b,arr,el,hA,hheap,hsz,hcap,hm,hcs,hrel,hs⟩
          · exact .inl ⟨by show (upd G.hd k hd q).A=_; rw [h2]; exact z1,by show (upd G.hd k hd q).cap=_; rw [h2]; exact z2,z3⟩
          have hlt:=(yay.1 hheap).1
          exact .inr ⟨b,arr,el,by show (upd G.hd k hd q).A=_; rw [h2]; exact hA,(hblock b hlt).trans hheap,by show _=(upd G.hd k hd q).cap*_; rw [h2]; exact hsz,by show (upd G.hd k hd q).cap=_∨_∧_≤(upd G.hd k hd q).cap; rw [h2]; exact hcap,hm,hcs,fun p x hp j c hj=>⟨(hrel p x hp j c hj).1.keeps hext.keeps.rwS,(hrel p x hp j c hj).2⟩,(hst b hlt).trans hs⟩
  · by_cases hq:q=k
    · by_cases hq':q'=k
      · rw [hq,hq']
      · subst hq
        rw [hk] at h1
        have:=hown b h1
        have:=zio i ((hOw q' b hq').1 h2)
        omega
    · by_cases hq':q'=k
      · subst hq'
        rw [hk] at h2
        have:=hown b h2
        have:=zio i ((hOw q b hq).1 h1)
        omega
      · exact i.apart q q' b ((hOw q b hq).1 h1) ((hOw q' b hq').1 h2)
  · by_cases hq:q=k
    · subst hq; rw [hk] at ho; exact .inr (hown b ho)
    · exact .inl ⟨q,(hOw q b hq).1 ho⟩
theorem zAv {G:GS} {h:Nat→Ent} {w:World} (i:Inv G h w) (k:Nat) (cs:List AV) (arr:Array Value) (el:TypeId) (hsz:arr.size=cs.length)
    (hrel:∀ (j:Nat) c,cs[j]? = some c→ARel G h w (arr.getD j undef) c∧(arr.getD j undef).oneCell'=true) :
    ∃ G',Step G h w G' (newE h k (.box cs false)) (w.alloc (.cells arr el))∧ARel G' (newE h k (.box cs false)) (w.alloc (.cells arr el)) (.pointer (some ⟨w.heap.size,0,none⟩)) (.ptr k ((h k).ver+1) 0):=by
  have hz:G.St w.heap.size=0:=by
    rcases yaj (G.St w.heap.size) with h0 | h0
    · exact h0
    · have:=i.st _ h0; omega
  refine ⟨⟨G.St,upd G.hd k ⟨some ⟨w.heap.size,0,none⟩,0⟩⟩,zsy i k (.box cs false) ⟨some ⟨w.heap.size,0,none⟩,0⟩ G.St _ rfl rfl rfl (by simp) (fun b hb=>heap_alloc_old w _ b hb) (fun _ _=>rfl) (fun b hb=>by have:=i.st b hb; simp; omega) (fun b hb h0=>by have:=i.st b h0; omega) (fun hext=>?_) (fun b ho=>?_),?_⟩
  · refine ⟨w.heap.size,arr,el,by simp [upd],heap_alloc_new w _,hsz,fun j c hj=>⟨(hrel j c hj).1.ext hext,(hrel j c hj).2⟩,by simpa using hz⟩
  · have ho':(upd G.hd k ⟨some ⟨w.heap.size,0,none⟩,0⟩ k).A=some ⟨b,0,none⟩:=ho
    simp [upd] at ho'
    omega
  · refine .ptr _ _ _ _ rfl (by simp [newE,upd]) fun _ cs' fz' hb'=>⟨w.heap.size,by simp [upd],rfl⟩
section
variable {P:Program} {G:GS} {h:Nat→Ent} {w:World} {a:Act} {s:Nat→AV} {o:Oper}
theorem zH6 {α β:Type} {as:List α} {bs:List β} (hl:as.length=bs.length) {j:Nat} {p:α × β} (hj:(as.zip bs)[j]? = some p):as[j]? = some p.1∧bs[j]? = some p.2:=by
  rw [List.getElem?_zip_eq_some] at hj
  exact hj
theorem ztt {t:TypeId} {cs:List AV} (hz:zry P t=some cs):∃ z:Value,(P.info? t).bind (·.zero)=some z∧z.cells.size=cs.length∧(∀ (j:Nat) c,cs[j]? = some c→ARel G h w (z.cells.getD j undef) c)∧(∀ (j:Nat) c,cs[j]? = some c→(z.cells.getD j undef).oneCell'=true):=by
  unfold zry at hz
  split at hz
  · rename_i z hzz
    simp only [] at hz
    split at hz
    · rename_i hl
      simp only [Option.some.injEq] at hz
      subst hz
      refine ⟨z,hzz,by have:=hl.1; simp at this; simp [this],fun j c hj=>?_,fun j c hj=>?_⟩
      · simp only [yau] at hj
        cases hp:(z.cells.toList.zip (zFj P 8 t))[j]? with
        | none=>simp [hp] at hj
        | some p =>
          simp only [hp,yak,Option.some.injEq] at hj
          subst hj
          obtain ⟨h1,h2⟩:=zH6 hl.1 hp
          rw [yav] at h1
          have:z.cells.getD j undef=p.1:=by simp [yaw,h1]
          rw [this]
          exact zIi P G h w p.2 p.1
      · have hlt:j<z.cells.size:=by
          have:=(yae.1 hj).1
          simp at this
          omega
        have h3:=hl.2
        rw [Array.all_eq_true] at h3
        simp only [yap,hlt,dif_pos]
        exact h3 j hlt
    · cases hz
  · cases hz
theorem zE0 (i:Inv G h w) (sl:zc0 G h w a s) (e:TypeId) {cs:List AV} (hz:zry P e=some cs) {av:AV} {h':Nat→Ent} (dst:Option Nat) (hact:act dst ⟨s,h⟩ (.alloc cs)=some (av,h')) (ho:o.op = .alloc e) :
    Did P G h w ((execOp a.eval o).run P w) av h':=by
  simp only [act] at hact
  cases dst with
  | none=>simp at hact
  | some k =>
    simp only [yaq,Option.some.injEq,Prod.mk.injEq] at hact
    obtain ⟨rfl,rfl⟩:=hact
    obtain ⟨z,hzz,hsz,hrel,hone⟩:=ztt (G:=G) (h:=h) (w:=w) hz
    obtain ⟨G',hs,hr⟩:=zAv i k cs z.cells e hsz (fun j c hj=>⟨hrel j c hj,hone j c hj⟩)
    refine ⟨_,_,G',.inl ?_,hs,hr⟩
    cases hi:P.info? e with
    | none=>simp [hi] at hzz
    | some inf =>
      simp only [hi,yaq] at hzz
      simp [execOp,ho,Instr.alloc,zeroValue,typeInfo,program,hi,hzz,newVar,newRow,newObj,Sem.run,Sem.run_bind,Sem.run_pure]
theorem ARel.one_ok {v:Value} {x:AV} (r:ARel G h w v x) (h1:x.one=true):v.oneCell'=true:=by
  cases r with
  | d v y hr=>cases hr <;> first | rfl | simp [AV.one] at h1
  | n _ _ _ h=>exact h
  | fsl=>rfl
  | rsl _ _ _ h=>exact h
  | ptr _ _ _ _ h=>exact h
  | eptr _ _ _ _ _ _ h=>exact h
  | clo=>rfl
  | agg=>simp [AV.one] at h1
  | tup=>simp [AV.one] at h1
  | skip=>simp [AV.one] at h1
  | junk=>simp [AV.one] at h1
theorem zj9 {v:Value} (h1:v.oneCell'=true):v.cells = #[v]:=by
  cases v <;> first | rfl | simp [Value.oneCell'] at h1
theorem ARel.cells_ok {v:Value} {x:AV} (r:ARel G h w v x) (h1:x.cells.all AV.one=true):v.cells.size=x.cells.length ∧ ∀ (j:Nat) c,x.cells[j]? = some c→ARel G h w (v.cells.getD j undef) c∧(v.cells.getD j undef).oneCell'=true:=by
  have hall:∀ (j:Nat) c,x.cells[j]? = some c→c.one=true:=fun j c hj=>by
    rw [yaC] at h1
    exact h1 c (yas hj)
  have lone:x.cells=[x]→x.one=true→v.cells.size=x.cells.length ∧ ∀ (j:Nat) c,x.cells[j]? = some c→ARel G h w (v.cells.getD j undef) c∧(v.cells.getD j undef).oneCell'=true:=by
    intro hx ho
    have hv:=r.one_ok ho
    rw [hx,zj9 hv]
    refine ⟨rfl,fun j c hj=>?_⟩
    cases j with
    | zero =>
      simp only [yaz,Option.some.injEq] at hj
      subst hj
      exact ⟨r,hv⟩
    | succ j=>simp at hj
  cases x with
  | d y =>
    cases y with
    | agg cs =>
      have hr:=r.d_inv
      cases hr with
      | agg vs _ hn hr =>
        refine ⟨by simp [Value.cells,AV.cells,D.cells,hn],fun j c hj=>?_⟩
        have ho:=hall j c hj
        simp only [AV.cells,D.cells,yau] at hj
        cases hc:cs[j]? with
        | none=>simp [hc] at hj
        | some q =>
          simp only [hc,yak,Option.some.injEq] at hj
          subst hj
          have:ARel G h w (vs.getD j undef) (.d q):=.d _ _ (hr j q hc)
          exact ⟨this,this.one_ok ho⟩
    | junk=>simp [AV.cells,D.cells,AV.one] at h1
    | _=>exact lone rfl rfl
  | agg cs =>
    cases r with
    | agg vs _ hn hr=>exact ⟨hn,fun j c hj=>⟨hr j c hj,(hr j c hj).one_ok (hall j c hj)⟩⟩
  | tup=>simp [AV.cells,AV.one] at h1
  | skip=>simp [AV.cells,AV.one] at h1
  | junk=>simp [AV.cells,AV.one] at h1
  | _=>exact lone rfl rfl
theorem zJa (i:Inv G h w) (sl:zc0 G h w a s) (e:TypeId) (x:Operand) {av:AV} {h':Nat→Ent} (dst:Option Nat) (hact:act dst ⟨s,h⟩ (.box (copd P e x))=some (av,h')) (ho:o.op = .box e x) :
    Did P G h w ((execOp a.eval o).run P w) av h':=by
  simp only [act] at hact
  cases dst with
  | none=>simp at hact
  | some k =>
    simp only [yaq] at hact
    split at hact
    · rename_i h1
      simp only [Option.some.injEq,Prod.mk.injEq] at hact
      obtain ⟨rfl,rfl⟩:=hact
      obtain ⟨hsz,hrel⟩:=(za0 P sl e x).cells_ok h1
      obtain ⟨G',hs,hr⟩:=zAv i k _ (a.eval x).cells e hsz hrel
      exact ⟨_,_,G',.inl (by simp [execOp,ho,Instr.box,newVar,newRow,newObj,Sem.run,Sem.run_bind,Sem.run_pure]),hs,hr⟩
    · cases hact
theorem zCj (i:Inv G h w) (t:TypeId) {sz:Nat} {av:AV} {h':Nat→Ent} (dst:Option Nat) (hact:act dst ⟨s,h⟩ (.nilrow sz)=some (av,h')) (ho:o.op = .assign (.const (.slice none 0 0))) :
    Did P G h w ((execOp a.eval o).run P w) av h':=by
  simp only [act] at hact
  cases dst with
  | none=>simp at hact
  | some k =>
    simp only [yaq,Option.some.injEq,Prod.mk.injEq] at hact
    obtain ⟨rfl,rfl⟩:=hact
    refine ⟨.slice none 0 0,w,⟨G.St,upd G.hd k ⟨none,0⟩⟩,.inl (by simp [execOp,ho,Act.eval,Sem.run_pure]),zsy i k _ _ _ _ rfl rfl rfl (yab _) (fun _ _=>rfl) (fun _ _=>rfl) i.st (fun b hb h0=>by have:=i.st b h0; omega) (fun _=>.inl ⟨by simp [upd],by simp [upd],rfl⟩) (fun b hb=>?_),?_⟩
    · have:=hb.1
      simp [upd] at this
    · refine .rsl _ _ _ rfl (by simp [newE,upd]) fun _ sz' xs' fz' hb=>?_
      have hb':(newE h k (.row sz [] false) k).body = .row sz' xs' fz':=hb
      simp only [newE,upd,if_true,Body.row.injEq] at hb'
      simp [upd,← hb'.2.1]
theorem zHa {G:GS} {h:Nat→Ent} {w:World} (i:Inv G h w) (k sz:Nat) (xs:List D) (arr:Array Value) (el:TypeId) (hsz:arr.size=xs.length*sz) (hm:xs.length≤9223372036854775807) (hcs:∀ x ∈ xs,x.cells.length=sz)
    (hrel:∀ (p:Nat) x,xs[p]? = some x → ∀ (j:Nat) c,x.cells[j]? = some c→Rel (rwS G.St) w (arr.getD (p*sz+j) undef) c∧(arr.getD (p*sz+j) undef).oneCell'=true) :
    ∃ G',Step G h w G' (newE h k (.row sz xs false)) (w.alloc (.cells arr el))∧ARel G' (newE h k (.row sz xs false)) (w.alloc (.cells arr el)) (.slice (some ⟨w.heap.size,0,none⟩) xs.length xs.length) (.rsl k ((h k).ver+1)):=by
  have hz:G.St w.heap.size=0:=by
    rcases yaj (G.St w.heap.size) with h0 | h0
    · exact h0
    · have:=i.st _ h0; omega
  refine ⟨⟨G.St,upd G.hd k ⟨some ⟨w.heap.size,0,none⟩,xs.length⟩⟩,zsy i k (.row sz xs false) ⟨some ⟨w.heap.size,0,none⟩,xs.length⟩ G.St _ rfl rfl rfl (by simp) (fun b hb=>heap_alloc_old w _ b hb) (fun _ _=>rfl) (fun b hb=>by have:=i.st b hb; simp; omega) (fun b hb h0=>by have:=i.st b h0; omega) (fun hext=>?_) (fun b ho=>?_),?_⟩
  · refine .inr ⟨w.heap.size,arr,el,by simp [upd],heap_alloc_new w _,by simp only [upd,if_true]; exact hsz,.inl (by simp [upd]),hm,hcs,fun p x hp j c hj=>⟨(hrel p x hp j c hj).1.keeps hext.keeps.rwS,(hrel p x hp j c hj).2⟩,hz⟩
  · have ho':(upd G.hd k ⟨some ⟨w.heap.size,0,none⟩,xs.length⟩ k).A=some ⟨b,0,none⟩:=ho.1
    simp [upd] at ho'
    omega
  · refine .rsl _ _ _ rfl (by simp [newE,upd]) fun _ sz' xs' fz' hb=>?_
    have hb':(newE h k (.row sz xs false) k).body = .row sz' xs' fz':=hb
    simp only [newE,upd,if_true,Body.row.injEq] at hb'
    simp [upd,← hb'.2.1]
theorem zDi {cs:List AV} {ds:List D} (hd:cs.mapM AV.data=some ds):cs.length=ds.length ∧ ∀ (j:Nat) c,cs[j]? = some c → ∃ d,ds[j]? = some d∧c.data=some d:=by
  induction cs generalizing ds with
  | nil=>simp at hd; subst hd; simp
  | cons c cs ih =>
    rw [List.mapM_cons] at hd
    cases hc:c.data with
    | none=>simp [hc] at hd
    | some d =>
      cases hr:cs.mapM AV.data with
      | none=>simp [hc,hr] at hd
      | some r =>
        simp [hc,hr] at hd
        subst hd
        obtain ⟨h1,h2⟩:=ih hr
        refine ⟨by simp [h1],fun j e hj=>?_⟩
        cases j with
        | zero=>simp at hj; subst hj; exact ⟨d,rfl,hc⟩
        | succ j=>simpa using h2 j e (by simpa using hj)
theorem ARel.data_ok {v:Value} {x:AV} {d:D} (r:ARel G h w v x) (hd:x.data=some d):Rel G.St w v d:=by
  cases x with
  | d y=>simp [AV.data] at hd; subst hd; exact r.d_inv
  | fsl z xs=>simp [AV.data] at hd; subst hd; cases r with | fsl A n _ _ hr=>exact hr
  | _=>simp [AV.data] at hd
theorem zq6 (d:D) (hd:∀ cs,d = .agg cs→False):d.cells=[d]:=by
  cases d with
  | agg cs=>exact (hd cs rfl).elim
  | _=>rfl
theorem zE8 {g:Bool} {ds:List D} {d:D} (hm:mkD g ds=some d):d.cells=ds:=by
  unfold mkD at hm
  cases g with
  | true =>
    simp only [if_true,Option.some.injEq] at hm
    subst hm
    rfl
  | false =>
    simp only [yao,if_false] at hm
    split at hm
    · split at hm
      · cases hm
      · rename_i d' hd
        simp only [Option.some.injEq] at hm
        subst hm
        exact zq6 _ hd
    · cases hm
theorem zwm {t:TypeId} {d:D} {n:Nat} (hz:zy6 P t=some d) (hn:sz? P t=some n) :
    ∃ z:Value,(P.info? t).bind (·.zero)=some z∧z.cells.size=n∧d.cells.length=n∧(∀ (j:Nat) c,d.cells[j]? = some c→Rel G.St w (z.cells.getD j undef) c∧(z.cells.getD j undef).oneCell'=true):=by
  unfold zy6 at hz
  cases hg:ag? P t with
  | none=>simp [hg] at hz
  | some g =>
    cases hc:zry P t with
    | none=>simp [hg,hc] at hz
    | some cs =>
      cases hm:cs.mapM AV.data with
      | none=>simp [hg,hc,hm] at hz
      | some ds =>
        simp only [hg,hc,hm,yaq,hn] at hz
        split at hz
        · rename_i hl
          simp only [Option.some.injEq] at hl
          obtain ⟨z,hzz,hsz,hrel,hone⟩:=ztt (G:=G) (h:=zat) (w:=w) hc
          obtain ⟨h1,h2⟩:=zDi hm
          have hcs:=zE8 hz
          refine ⟨z,hzz,by omega,by rw [hcs]; omega,fun j c hj=>?_⟩
          rw [hcs] at hj
          have hlt:j<cs.length:=by have:=(yae.1 hj).1; omega
          obtain ⟨d',hd',hdd⟩:=h2 j _ (yar hlt)
          rw [hd'] at hj
          cases hj
          exact ⟨(hrel j _ (yar hlt)).data_ok hdd,hone j _ (yar hlt)⟩
        · cases hz
theorem zwn {z:Value} {n m p j:Nat} (hz:z.cells.size=m) (hm:0<m) (hj:j<m) (hp:p<n) :
    ((Array.range (n*m)).map (z.cells[· % z.cells.size]!)).getD (p*m+j) undef=z.cells.getD j undef:=by
  have hlt:p*m+j<n*m:=by
    have:p*m+m≤n*m:=by rw [← yag]; exact yah _ hp
    omega
  have hmod:(p*m+j) % m=j:=by rw [Nat.mul_comm,Nat.mul_add_mod,Nat.mod_eq_of_lt hj]
  simp [yap,hlt,hz,hmod,hj]
theorem zJw (i:Inv G h w) (sl:zc0 G h w a s) (t e:TypeId) (x:Operand) {z:D} {n bytes:Nat} (ht:P.underlying t=some (.slice e)) (hz:zy6 P e=some z) (hn:sz? P e=some n) (hb:byt? P e=some bytes) (hn0:0<n) (hb0:0<bytes)
    {av:AV} {h':Nat→Ent} (dst:Option Nat) (hact:act dst ⟨s,h⟩ (.mks z n bytes (copd P 0 x))=some (av,h')) (ho:o.op = .makeSlice t x x):Did P G h w ((execOp a.eval o).run P w) av h':=by
  have h1:=za0 P sl 0 x
  simp only [act] at hact
  cases dst with
  | none=>simp at hact
  | some k =>
    simp only [yaq] at hact
    split at hact
    · rename_i m hx
      rw [hx] at h1
      have h2:=h1.of_int
      split at hact
      · rename_i hc
        obtain ⟨hm0,hmb,hmr⟩:=hc
        simp only [Option.some.injEq,Prod.mk.injEq] at hact
        obtain ⟨rfl,rfl⟩:=hact
        obtain ⟨q,rfl⟩:=Int.eq_ofNat_of_zero_le hm0
        obtain ⟨zv,hzv,hzs,hzl,hzr⟩:=zwm (G:=⟨rwS G.St,G.hd⟩) (w:=w) hz hn
        simp only [zae] at hmb hmr
        cases hi:P.info? e with
        | none=>simp [hi] at hzv
        | some inf =>
          simp only [hi,yaq] at hzv
          simp only [byt?,hi,yak,Option.some.injEq] at hb
          simp only [sz?,hi,yak,Option.some.injEq] at hn
          let arr:Array Value:=(Array.range (q*n)).map (zv.cells[· % zv.cells.size]!)
          obtain ⟨G',hs,hr⟩:=zHa i k n (yaa q z) arr e (by simp [arr]) (by simp; omega) (fun y hy=>by rw [yaD hy]; exact hzl) (fun p y hp j c hj=>by
            have hpl:=(yae.1 hp).1
            simp at hpl
            have hy:y=z:=yaD (yas hp)
            subst hy
            have hjl:=(yae.1 hj).1
            have e1:=zwn (n:=q) (p:=p) hzs hn0 (show j<n by omega) hpl
            simp only [arr]
            rw [e1]
            exact hzr j c hj)
          simp only [List.length_replicate] at hr
          refine ⟨_,_,G',.inl ?_,by simpa using hs,by simpa using hr⟩
          have hmul:(inf.bytes:Int)*(q:Int)≤281474976710656:=by
            rw [hb]
            have:(bytes:Int)*(q:Int)=(q:Int)*(bytes:Int):=Int.mul_comm _ _
            omega
          have hrun:=run_make (P:=P) w t e inf zv ht hi hzv .i64 .i64 q q (by omega) (Int.le_refl _) hmul (by omega)
          simp only [Int.toNat_natCast,hn,madeCells] at hrun
          simp [execOp,ho,h2,hrun,arr,Sem.run_bind,Sem.run_pure]
      · cases hact
    · cases hact
theorem zlt {t:TypeId} {n:Nat} (hn:sz? P t=some n) (b off:Nat) (el:TypeId) (arr:Array Value) (hheap:w.heap[b]? = some (.cells arr el (0,0))) (v:Value) (hv:v.cells.size=n) (hle:off+n≤arr.size) (hone:∀ u ∈ v.cells.toList,u.oneCell'=true) :
    (storeVar t ⟨b,off,none⟩ v).run P w = .ok () (w.setRow b (arr.toList.take off ++ v.cells.toList ++ arr.toList.drop (off+n)).toArray):=by
  have h:=run_storeCells_at P b off el v.cells.toList 0 arr w hheap (by simp; omega) hone
  simp only [yan] at h
  have hl:v.cells.toList.length=n:=by simp [hv]
  rw [hl] at h
  simp [storeVar,Sem.run_bind,zcr hn,hv,h]
theorem zoo {b:Nat} {arr cs:Array Value} {el:TypeId} (hheap:w.heap[b]? = some (.cells arr el (0,0))) (b' j:Nat) (hne:b' ≠ b):(w.setRow b cs).cell? ⟨b',j,none⟩=w.cell? ⟨b',j,none⟩ :=
  World.cell?_of_block (w:=w) (a:=⟨b',j,none⟩) (setRow_other w b b' cs hne)
theorem zlm {α:Type} (off:Nat) (new cs:List α) (hle:off+new.length≤cs.length) (j:Nat) :
    (put off new cs)[j]? = if off≤j∧j<off+new.length then new[j - off]? else cs[j]?:=by
  unfold put
  simp only [List.getElem?_append,yaE,yaF,yam,List.getElem?_take]
  by_cases h1:j<off
  · have:j<min off cs.length:=by omega
    simp [this,h1,show ¬ off≤j by omega,show j<min off cs.length+new.length by omega]
  · by_cases h2:j<off+new.length
    · simp [show ¬ j<min off cs.length by omega,show j<min off cs.length+new.length by omega,show off≤j by omega,h2,show min off cs.length=off by omega]
      intro h; omega
    · simp [show ¬ j<min off cs.length by omega,show ¬ j<min off cs.length+new.length by omega,show ¬ (off≤j∧j<off+new.length) by omega]
      congr 1
      omega
theorem zrn {G:GS} {h:Nat→Ent} {w:World} (i:Inv G h w) (k b:Nat) (body:Body) (cs:Array Value) {arr:Array Value} {el:TypeId} (hheap:w.heap[b]? = some (.cells arr el (0,0))) (ho:Owns G k b (h k).body) (hst:G.St b=0)
    (hlike:(h k).body.like body) (hsame:∀ b',Owns G k b' body→Owns G k b' (h k).body)
    (hent:Ext G h w G (upd h k ⟨(h k).ver,body⟩) (w.setRow b cs)→zjc G (upd h k ⟨(h k).ver,body⟩) (w.setRow b cs) k body) :
    Step G h w G (upd h k ⟨(h k).ver,body⟩) (w.setRow b cs):=by
  have hk:(upd h k ⟨(h k).ver,body⟩ k).body=body:=by simp [upd]
  have hother:∀ q,q ≠ k→upd h k ⟨(h k).ver,body⟩ q=h q:=fun q hq=>by simp [upd,hq]
  have hcell:∀ b' j,b' ≠ b→(w.setRow b cs).cell? ⟨b',j,none⟩=w.cell? ⟨b',j,none⟩:=fun b' j hne=>zoo hheap b' j hne
  have hext:Ext G h w G (upd h k ⟨(h k).ver,body⟩) (w.setRow b cs):=by
    refine ⟨⟨fun _=>yab _,fun b' j hj=>hcell b' j fun e=>?_,fun b' hb hf=>hf.eq (setRow_other w b b' cs fun e=>by subst e; omega)⟩,fun q=>?_,fun q hq=>⟨rfl,?_⟩⟩
    · subst e; omega
    · by_cases hqk:q=k
      · subst hqk; simp [upd]
      · rw [hother q hqk]; exact yab _
    · by_cases hqk:q=k
      · subst hqk; rw [hk]; exact hlike
      · rw [hother q hqk]; exact Body.like_refl _
  have hOw:∀ q b',Owns G q b' (upd h k ⟨(h k).ver,body⟩ q).body→Owns G q b' (h q).body:=by
    intro q b' hq
    by_cases hqk:q=k
    · subst hqk; rw [hk] at hq; exact hsame b' hq
    · rw [hother q hqk] at hq; exact hq
  refine ⟨⟨fun b' hb=>by have:=i.st b' hb; simpa using this,fun q=>?_,fun q q' b' h1 h2=>i.apart q q' b' (hOw q b' h1) (hOw q' b' h2),by simpa using i.low⟩,hext,⟨rfl,rfl,rfl,by simp,fun b' _ hn=>⟨setRow_other w b b' cs fun e=>hn k (e ▸ ho),rfl⟩⟩,fun q b' hq=>.inl ⟨q,hOw q b' hq⟩,fun b' h0 h1=>by omega⟩
  by_cases hqk:q=k
  · subst hqk; rw [hk]; exact hent hext
  · rw [hother q hqk]
    have he:=i.ent q
    have hne:∀ b',Owns G q b' (h q).body→b' ≠ b:=fun b' hq e=>hqk (i.apart q k b (e ▸ hq) ho)
    cases hb:(h q).body with
    | dead=>trivial
    | box ds fz =>
      rw [hb] at he
      obtain ⟨b',arr',el',hA,hh,hsz,hrel,hs⟩:=he
      have hn:=hne b' (by rw [hb]; exact hA)
      exact ⟨b',arr',el',hA,(setRow_other w b b' cs hn).trans hh,hsz,fun j c hj=>⟨(hrel j c hj).1.ext hext,(hrel j c hj).2⟩,hs⟩
    | row sz xs fz =>
      rw [hb] at he
      cases fz with
      | true =>
        refine ⟨he.1.keeps hext.keeps,?_⟩
        by_cases hc:(G.hd q).cap=xs.length
        · exact .inl hc
        · rcases he.2 with hc' | ⟨b',arr',el',hA,hh,h0,hsz,hs⟩
          · exact absurd hc' hc
          · have hn:=hne b' (by rw [hb]; exact ⟨hA,fun _=>hc⟩)
            exact .inr ⟨b',arr',el',hA,(setRow_other w b b' cs hn).trans hh,h0,hsz,hs⟩
      | false =>
        rcases he with ⟨z1,z2,z3⟩ | ⟨b',arr',el',hA,hh,hsz,hcap,hm,hcs,hrel,hs⟩
        · exact .inl ⟨z1,z2,z3⟩
        have hn:=hne b' (by rw [hb]; exact ⟨hA,fun hf=>by cases hf⟩)
        exact .inr ⟨b',arr',el',hA,(setRow_other w b b' cs hn).trans hh,hsz,hcap,hm,hcs,fun p x hp j c hj=>⟨(hrel p x hp j c hj).1.keeps hext.keeps.rwS,(hrel p x hp j c hj).2⟩,hs⟩
theorem zs8 {St:Nat→Nat} {n:Nat} {v:Value} {x:AV} {y:D} (r:ARel G h w v x) (hone:x.cells.all AV.one=true) (hy:toD h n x=some y) (hr:Rel St w v y) :
    v.cells.size=y.cells.length ∧ ∀ (j:Nat) c,y.cells[j]? = some c→Rel St w (v.cells.getD j undef) c∧(v.cells.getD j undef).oneCell'=true:=by
  obtain ⟨hsz,hc⟩:=r.cells_ok hone
  cases hyk:y with
  | agg cs =>
    subst hyk
    cases hr with
    | agg vs _ hn hr =>
      refine ⟨hn,fun j c hj=>⟨hr j c hj,?_⟩⟩
      have hlt:j<x.cells.length:=by
        have h1:=(yae.1 hj).1
        have h2:vs.size=x.cells.length:=hsz
        simp only [D.cells] at h1
        omega
      exact (hc j _ (yar hlt)).2
  | _ =>
    have hna:∀ cs,y = .agg cs→False:=fun cs e=>by rw [hyk] at e; cases e
    rw [← hyk,zq6 y hna]
    have hx1:x.cells=[x]:=by
      cases x with
      | d z=>rw [zv0] at hy; cases hy; simp [AV.cells,zq6 y hna]
      | agg cs =>
        cases n with
        | zero=>simp [toD] at hy
        | succ n =>
          simp only [toD,yaG] at hy
          obtain ⟨ds,_,he⟩:=hy
          exact (hna ds he.symm).elim
      | _=>rfl
    rw [hx1] at hc hsz
    have hv1:v.oneCell'=true:=r.one_ok (by rw [hx1] at hone; simpa using hone)
    refine ⟨by rw [zj9 hv1]; rfl,fun j c hj=>?_⟩
    cases j with
    | zero =>
      simp only [yaz,Option.some.injEq] at hj
      subst hj
      rw [zj9 hv1]
      exact ⟨hr,hv1⟩
    | succ j=>simp at hj
theorem zwk {h:Nat→Ent} {k v:Nat} {b:Body} (hv:v=(h k).ver):upd h k ⟨v,b⟩=upd h k ⟨(h k).ver,b⟩:=by rw [hv]
theorem Rel.bare1 {St St':Nat→Nat} {v:Value} {d:D} (h:Rel St w v d) (hf:d.bare1=true):Rel St' w v d:=by
  cases h with
  | int=>exact .int _ _
  | bool=>exact .bool _
  | str=>exact .str _
  | nilp=>exact .nilp
  | sl A cap sz b off xs hc hm hs =>
    cases xs with
    | nil=>exact .sl A cap sz b off [] hc hm hs (by simp) (fun _ _=>undef) (by simp) (by simp) (by simp)
    | cons=>simp [D.bare1] at hf
  | _=>simp [D.bare1] at hf
theorem zA5 {n:Nat} {v:Value} {x:AV} {y:D} (r:ARel G h w v x) (hh:x.hi=true) (hone:x.cells.all AV.one=true) (hy:toD h n x=some y) :
    ∀ (j:Nat) c,y.cells[j]? = some c→Rel (cutS true Nw.n G.St) w (v.cells.getD j undef) c:=by
  obtain ⟨hsz,hc⟩:=r.cells_ok hone
  have one:∀ {n:Nat} {u:Value} {a:AV} {d:D},ARel G h w u a→a.hi1=true→toD h n a=some d→Rel (cutS true Nw.n G.St) w u d:=by
    intro n u a d ra ha hd
    cases a with
    | d z=>rw [zv0] at hd; cases hd; exact ra.d_inv.bare1 ha
    | n q z =>
      rw [zHv] at hd
      cases hd
      simp only [AV.hi1] at ha
      subst ha
      cases ra with | n _ _ _ _ hr=>exact hr
    | fsl sz xs =>
      rw [zup] at hd
      cases hd
      cases xs with
      | nil=>cases ra with | fsl A m _ _ hr=>exact hr.bare1 rfl
      | cons=>simp [AV.hi1] at ha
    | _=>simp [AV.hi1] at ha
  intro j c hj
  cases x with
  | d z =>
    rw [zv0] at hy
    cases hy
    cases y with
    | agg cs =>
      cases r.d_inv with
      | agg vs _ hn hr =>
        simp only [AV.hi,D.bare,yaC] at hh
        exact (hr j c hj).bare1 (hh c (yas hj))
    | _ =>
      have h1:=r.one_ok (by simpa [AV.cells,D.cells] using hone)
      rw [zj9 h1]
      cases j with
      | zero=>cases hj; exact r.d_inv.bare1 hh
      | succ j=>simp [D.cells] at hj
  | n q z =>
    have h1:=r.one_ok rfl
    rw [zj9 h1]
    have hr:=one r hh hy
    have hyl:y.cells=[y]:=by
      cases y with
      | agg cs=>cases hr; cases h1
      | _=>rfl
    rw [hyl] at hj
    cases j with
    | zero=>cases hj; exact hr
    | succ j=>simp at hj
  | fsl sz xs =>
    have h1:=r.one_ok rfl
    rw [zj9 h1]
    have hr:=one r hh hy
    have hyl:y.cells=[y]:=by rw [zup] at hy; cases hy; rfl
    rw [hyl] at hj
    cases j with
    | zero=>cases hj; exact hr
    | succ j=>simp at hj
  | agg cs =>
    cases n with
    | zero=>simp [toD] at hy
    | succ n =>
      simp only [toD,yaG] at hy
      obtain ⟨ds,hds,rfl⟩:=hy
      obtain ⟨hl,hg⟩:=ze1 hds
      have hj':=(yae.1 hj).1
      simp only [D.cells] at hj hj'
      have hlt:j<cs.length:=by omega
      obtain ⟨d,hd,ht⟩:=hg j _ (yar hlt)
      rw [hd] at hj
      cases hj
      simp only [AV.hi,yaC] at hh
      cases r with
      | agg vs _ hn hr=>exact one (hr j _ (yar hlt)) (hh _ (yaf hlt)) ht
  | _=>simp [AV.hi,AV.hi1] at hh
theorem zjz {q:Bool} {n:Nat} {St St':Nat→Nat} (h:∀ b,St b≤St' b) (b:Nat):cutS q n St b≤cutS q n St' b:=by
  unfold cutS
  split
  · exact h b
  · exact yab _
theorem zBa (i:Inv G h w) {v:Value} {x:AV} {y:D} (hg:Nw.hm=true→x.hi=true) (r:ARel G h w v x) (hone:x.cells.all AV.one=true) (hy:toD h deep x=some y) (ks:List Nat) (hk:∀ k ∈ sk h deep x,k ∈ ks) :
    v.cells.size=y.cells.length ∧ ∀ (j:Nat) c,y.cells[j]? = some c→Rel (rwS (zch G h w ks)) w (v.cells.getD j undef) c∧(v.cells.getD j undef).oneCell'=true:=by
  obtain ⟨h1,h2⟩:=zs8 r hone hy (zr5 i ks deep r hy hk)
  refine ⟨h1,fun j c hj=>⟨?_,(h2 j c hj).2⟩⟩
  unfold rwS
  split
  · rename_i hm
    exact (zA5 r (hg hm) hone hy j c hj).le (zjz (zkf G h w ks))
  · exact (h2 j c hj).1
def gate (s:Nat→AV):XOp→Prop
  | .store _ a x=>(x.ev s).hi=true∨(a.ev s).isE=false
  | .app _ _ _ y=>(y.ev s).hiY=true
  | _=>True
theorem zEb (i:Inv G h w) (sl:zc0 G h w a s) (t:TypeId) (ad x:Operand) {n:Nat} (hn:sz? P t=some n) {av:AV} {h':Nat→Ent} (dst:Option Nat) (hact:act dst ⟨s,h⟩ (.store n (copd P 0 ad) (copd P t x))=some (av,h'))
    (ho:o.op = .store t ad x) (hg:Nw.hm=true→gate s (.store n (copd P 0 ad) (copd P t x))):Did P G h w ((execOp a.eval o).run P w) av h':=by
  have h1:=za0 P sl 0 ad
  have h2:=za0 P sl t x
  simp only [act] at hact
  cases hs:zla h n ((copd P 0 ad).ev s) ((copd P t x).ev s) with
  | none=>simp [hs] at hact
  | some r =>
    simp only [hs,yak,Option.some.injEq,Prod.mk.injEq] at hact
    obtain ⟨rfl,rfl⟩:=hact
    unfold zla at hs
    split at hs
    · -- into a box
      rename_i k v off hx
      rw [hx] at h1
      split at hs
      · rename_i hver
        split at hs
        · rename_i cs hb
          split at hs
          · rename_i hc
            obtain ⟨hxl,hle,hone⟩:=hc
            simp only [Option.some.injEq] at hs
            subst hs
            obtain ⟨hsz,hrel⟩:=h2.cells_ok hone
            have he:=i.ent k
            rw [hb] at he
            obtain ⟨b,arr,el,hA,hheap,hasz,harel,hst⟩:=he
            simp only [yao,if_false] at hst
            generalize hp:a.eval ad=u at h1
            cases h1 with
            | ptr _ _ _ _ hone_ hle' hv =>
              obtain ⟨b',hA',hv'⟩:=hv hver cs false hb
              rw [hA] at hA'
              simp only [Option.some.injEq,Addr.mk.injEq,and_true] at hA'
              subst hA'
              subst hv'
              have hsz':(a.eval x).cells.size=n:=by omega
              have hrun:=zlt (w:=w) hn b off el arr hheap (a.eval x) hsz' (by omega) (fun u hu=>by
                obtain ⟨j,hj⟩:=yaH hu
                rw [yav] at hj
                have hlt:=(yay.1 hj).1
                have:=(hrel j _ (yar (by omega))).2
                simpa [yaw,hj] using this)
              rw [zwk hver]
              have hex:(execOp a.eval o).run P w = .ok .skip (w.setRow b (arr.toList.take off ++ (a.eval x).cells.toList ++ arr.toList.drop (off+n)).toArray):=by
                generalize w.setRow b (arr.toList.take off ++ (a.eval x).cells.toList ++ arr.toList.drop (off+n)).toArray=W at hrun ⊢
                simp [execOp,ho,hp,Instr.storeAt,Instr.sureAddr,hrun,Sem.run_bind,Sem.run_pure]
              refine ⟨undef,_,G,.inr ⟨hex,rfl⟩,zrn i k b (.box (put off ((copd P t x).ev s).cells cs) false) _ hheap (by rw [hb]; exact hA) hst (by rw [hb]; trivial) (fun b' hb'=>by rw [hb]; exact hb') (fun hext=>?_),.skip⟩
              have hplen:(put off ((copd P t x).ev s).cells cs).length=cs.length:=by simp [put]; omega
              refine ⟨b,_,el,hA,setRow_heap w b arr _ el _ hheap,by simp [hplen]; omega,fun j c hj=>?_,by simpa using hst⟩
              rw [zlm _ _ _ (by omega)] at hj
              have hgetD:∀ q,(arr.toList.take off ++ (a.eval x).cells.toList ++ arr.toList.drop (off+n)).toArray.getD q undef=if off≤q∧q<off+n then (a.eval x).cells.getD (q - off) undef else arr.getD q undef:=by
                intro q
                have:=zlm off (a.eval x).cells.toList arr.toList (by simp; omega) q
                have hl:(a.eval x).cells.toList.length=n:=by simp [hsz']
                unfold put at this
                rw [hl] at this
                simp only [yaw,yaI,this]
                split
                · rw [yav]
                · rw [yav]
              rw [hgetD]
              rw [hxl] at hj
              split at hj
              · rename_i hc
                rw [if_pos hc]
                exact ⟨(hrel _ c hj).1.ext hext,(hrel _ c hj).2⟩
              · rename_i hc
                rw [if_neg hc]
                exact ⟨(harel _ c hj).1.ext hext,(harel _ c hj).2⟩
          · cases hs
        · cases hs
      · cases hs
    · -- into an element of an own row
      rename_i k v sz p off hx
      have hg':Nw.hm=true→((copd P t x).ev s).hi=true:=fun hm=>by
        rcases hg hm with hg | hg
        · exact hg
        · rw [hx] at hg; cases hg
      rw [hx] at h1
      split at hs
      · rename_i hver
        split at hs
        · rename_i sz' xs hb
          split at hs
          · rename_i y hy
            split at hs
            · rename_i hc
              obtain ⟨rfl,rfl,rfl,hyl,hone,hp,hks⟩:=hc
              simp only [Option.some.injEq] at hs
              subst hs
              have hfs:=zbp i (sk h deep ((copd P t x).ev s))
              have hyr:=zr5 i (sk h deep ((copd P t x).ev s)) deep h2 hy (fun _ hq=>hq)
              obtain ⟨hvs,hvr⟩:=zBa i hg' h2 hone hy (sk h deep ((copd P t x).ev s)) (fun _ hq=>hq)
              have h1':=h1.ext hfs.ext
              have hbk:(frz h (sk h deep ((copd P t x).ev s)) k)=h k:=by simp [frz,hks]
              have he:=hfs.inv.ent k
              rw [hbk,hb] at he
              rcases he with ⟨_,_,z3⟩ | ⟨b,arr,el,hA,hheap,hasz,hcap,hm,hcs,harel,hst⟩
              · subst z3; simp at hp
              generalize hpp:a.eval ad=u at h1'
              cases h1' with
              | eptr _ _ _ _ _ _ hone_ hle' hv =>
                obtain ⟨_,b',hA',hv'⟩:=hv (by rw [hbk]; exact hver) _ _ (by rw [hbk]; exact hb)
                rw [hA] at hA'
                simp only [Option.some.injEq,Addr.mk.injEq,and_true] at hA'
                subst hA'
                subst hv'
                rw [yan] at hpp
                have hle0:p*n+n≤xs.length*n:=by rw [← yag]; exact yah _ hp
                have hcl:xs.length*n≤arr.size:=by
                  rw [hasz]
                  refine yah _ ?_
                  show xs.length≤(G.hd k).cap
                  have hcap':(G.hd k).cap=xs.length∨(0<n∧xs.length≤(G.hd k).cap):=hcap
                  rcases hcap' with h | h <;> omega
                have hle:p*n+n≤arr.size:=by omega
                have hsz':(a.eval x).cells.size=n:=by omega
                have hrun:=zlt (w:=w) hn b (p*n) el arr hheap (a.eval x) hsz' (by omega) (fun u hu=>by
                  obtain ⟨j,hj⟩:=yaH hu
                  rw [yav] at hj
                  have hlt:=(yay.1 hj).1
                  have:=(hvr j _ (yar (by omega))).2
                  simpa [yaw,hj] using this)
                have hex:(execOp a.eval o).run P w = .ok .skip (w.setRow b (arr.toList.take (p*n) ++ (a.eval x).cells.toList ++ arr.toList.drop (p*n+n)).toArray):=by
                  generalize w.setRow b (arr.toList.take (p*n) ++ (a.eval x).cells.toList ++ arr.toList.drop (p*n+n)).toArray=W at hrun ⊢
                  simp [execOp,ho,hpp,Instr.storeAt,Instr.sureAddr,hrun,Sem.run_bind,Sem.run_pure]
                have hvk:v=(frz h (sk h deep ((copd P t x).ev s)) k).ver:=by rw [hbk]; exact hver
                rw [zwk hvk]
                refine ⟨undef,_,_,.inr ⟨hex,rfl⟩,hfs.trans (zrn hfs.inv k b (.row n (xs.set p y) false) _ hheap (by rw [hbk,hb]; exact ⟨hA,fun hf=>by cases hf⟩) hst (by rw [hbk,hb]; simp [Body.like]) (fun b' hb'=>by rw [hbk,hb]; exact ⟨hb'.1,fun hf=>by cases hf⟩) (fun hext=>?_)),.skip⟩
                refine .inr ⟨b,_,el,hA,setRow_heap w b arr _ el _ hheap,by simp only [yaJ,yaF,yaE,yaB,yaK]; rw [← hasz]; omega,by simpa using hcap,by simpa using hm,fun q hq=>?_,fun q yy hq j c hj=>?_,hst⟩
                · rcases yaL hq with hq | hq
                  · exact hcs q hq
                  · subst hq; exact hyl
                · have hgetD:∀ q,(arr.toList.take (p*n) ++ (a.eval x).cells.toList ++ arr.toList.drop (p*n+n)).toArray.getD q undef=if p*n≤q∧q<p*n+n then (a.eval x).cells.getD (q - p*n) undef else arr.getD q undef:=by
                    intro q
                    have:=zlm (p*n) (a.eval x).cells.toList arr.toList (by simp; omega) q
                    have hl:(a.eval x).cells.toList.length=n:=by simp [hsz']
                    unfold put at this
                    rw [hl] at this
                    simp only [yaw,yaI,this]
                    split
                    · rw [yav]
                    · rw [yav]
                  rw [hgetD]
                  rw [yaM] at hq
                  split at hq
                  · rename_i hpq
                    subst hpq
                    first | (rw [if_pos hp] at hq; cases hq) | cases hq
                    have hjl:=(yae.1 hj).1
                    rw [if_pos ⟨by omega,by omega⟩,show p*n+j - p*n=j by omega]
                    exact ⟨(hvr j c hj).1.keeps hext.keeps.rwS,(hvr j c hj).2⟩
                  · rename_i hpq
                    have hql:=(yae.1 hq).1
                    have hjl:=(zby hcs hq hj).2.1
                    have hne:¬ (p*n≤q*n+j∧q*n+j<p*n+n):=by
                      rcases yaN hpq with hlt | hlt
                      · have:p*n+n≤q*n:=by rw [← yag]; exact yah _ hlt
                        omega
                      · have:q*n+n≤p*n:=by rw [← yag]; exact yah _ hlt
                        omega
                    rw [if_neg hne]
                    exact ⟨(harel q yy hq j c hj).1.keeps hext.keeps.rwS,(harel q yy hq j c hj).2⟩
            · split at hs
              · rename_i cs hxp
                split at hs
                · rename_i hc
                  obtain ⟨rfl,hyl,hone,hoff,hks⟩:=hc
                  simp only [Option.some.injEq] at hs
                  subst hs
                  have hp:=(yae.1 hxp).1
                  have hfs:=zbp i (sk h deep ((copd P t x).ev s))
                  have hyr:=zr5 i (sk h deep ((copd P t x).ev s)) deep h2 hy (fun _ hq=>hq)
                  obtain ⟨hvs,hvr⟩:=zBa i hg' h2 hone hy (sk h deep ((copd P t x).ev s)) (fun _ hq=>hq)
                  have h1':=h1.ext hfs.ext
                  have hbk:(frz h (sk h deep ((copd P t x).ev s)) k)=h k:=by simp [frz,hks]
                  have he:=hfs.inv.ent k
                  rw [hbk,hb] at he
                  rcases he with ⟨_,_,z3⟩ | ⟨b,arr,el,hA,hheap,hasz,hcap,hm,hcs,harel,hst⟩
                  · subst z3; simp at hp
                  have hcsl:cs.length=sz:=hcs _ (yas hxp)
                  generalize hpp:a.eval ad=u at h1'
                  cases h1' with
                  | eptr _ _ _ _ _ _ hone_ hle' hv =>
                    obtain ⟨_,b',hA',hv'⟩:=hv (by rw [hbk]; exact hver) _ _ (by rw [hbk]; exact hb)
                    rw [hA] at hA'
                    simp only [Option.some.injEq,Addr.mk.injEq,and_true] at hA'
                    subst hA'
                    subst hv'
                    have hle0:p*sz+sz≤xs.length*sz:=by rw [← yag]; exact yah _ hp
                    have hcl:xs.length*sz≤arr.size:=by
                      rw [hasz]
                      refine yah _ ?_
                      show xs.length≤(G.hd k).cap
                      have hcap':(G.hd k).cap=xs.length∨(0<sz∧xs.length≤(G.hd k).cap):=hcap
                      rcases hcap' with h | h <;> omega
                    have hle:p*sz+off+n≤arr.size:=by omega
                    have hsz':(a.eval x).cells.size=n:=by omega
                    have hrun:=zlt (w:=w) hn b (p*sz+off) el arr hheap (a.eval x) hsz' (by omega) (fun u hu=>by
                      obtain ⟨j,hj⟩:=yaH hu
                      rw [yav] at hj
                      have hlt:=(yay.1 hj).1
                      have:=(hvr j _ (yar (by omega))).2
                      simpa [yaw,hj] using this)
                    have hex:(execOp a.eval o).run P w = .ok .skip (w.setRow b (arr.toList.take (p*sz+off) ++ (a.eval x).cells.toList ++ arr.toList.drop (p*sz+off+n)).toArray):=by
                      generalize w.setRow b (arr.toList.take (p*sz+off) ++ (a.eval x).cells.toList ++ arr.toList.drop (p*sz+off+n)).toArray=W at hrun ⊢
                      simp [execOp,ho,hpp,Instr.storeAt,Instr.sureAddr,hrun,Sem.run_bind,Sem.run_pure]
                    have hvk:v=(frz h (sk h deep ((copd P t x).ev s)) k).ver:=by rw [hbk]; exact hver
                    rw [zwk hvk]
                    have hpl:(put off y.cells cs).length=sz:=by simp only [put,yaF,yaE,yaB]; omega
                    refine ⟨undef,_,_,.inr ⟨hex,rfl⟩,hfs.trans (zrn hfs.inv k b (.row sz (xs.set p (.agg (put off y.cells cs))) false) _ hheap (by rw [hbk,hb]; exact ⟨hA,fun hf=>by cases hf⟩) hst (by rw [hbk,hb]; simp [Body.like]) (fun b' hb'=>by rw [hbk,hb]; exact ⟨hb'.1,fun hf=>by cases hf⟩) (fun hext=>?_)),.skip⟩
                    refine .inr ⟨b,_,el,hA,setRow_heap w b arr _ el _ hheap,by simp only [yaJ,yaF,yaE,yaB,yaK]; rw [← hasz]; omega,by simpa using hcap,by simpa using hm,fun q hq=>?_,fun q yy hq j c hj=>?_,hst⟩
                    · rcases yaL hq with hq | hq
                      · exact hcs q hq
                      · subst hq; exact hpl
                    · have hgetD:∀ q,(arr.toList.take (p*sz+off) ++ (a.eval x).cells.toList ++ arr.toList.drop (p*sz+off+n)).toArray.getD q undef=if p*sz+off≤q∧q<p*sz+off+n then (a.eval x).cells.getD (q - (p*sz+off)) undef else arr.getD q undef:=by
                        intro q
                        have:=zlm (p*sz+off) (a.eval x).cells.toList arr.toList (by simp; omega) q
                        have hl:(a.eval x).cells.toList.length=n:=by simp [hsz']
                        unfold put at this
                        rw [hl] at this
                        simp only [yaw,yaI,this]
                        split
                        · rw [yav]
                        · rw [yav]
                      rw [hgetD]
                      rw [yaM] at hq
                      split at hq
                      · rename_i hpq
                        subst hpq
                        first | (rw [if_pos hp] at hq; cases hq) | cases hq
                        have hj0:(put off y.cells cs)[j]? = some c:=hj
                        rw [zlm _ _ _ (by omega)] at hj0
                        split at hj0
                        · rename_i hcc
                          rw [if_pos ⟨by omega,by omega⟩,show p*sz+j - (p*sz+off)=j - off by omega]
                          exact ⟨(hvr _ c hj0).1.keeps hext.keeps.rwS,(hvr _ c hj0).2⟩
                        · rename_i hcc
                          have hjl:=(yae.1 hj0).1
                          rw [if_neg (by omega)]
                          exact ⟨(harel p _ hxp j c hj0).1.keeps hext.keeps.rwS,(harel p _ hxp j c hj0).2⟩
                      · rename_i hpq
                        have hql:=(yae.1 hq).1
                        have hjl:=(zby hcs hq hj).2.1
                        have hne:¬ (p*sz+off≤q*sz+j∧q*sz+j<p*sz+off+n):=by
                          rcases yaN hpq with hlt | hlt
                          · have:p*sz+sz≤q*sz:=by rw [← yag]; exact yah _ hlt
                            omega
                          · have:q*sz+sz≤p*sz:=by rw [← yag]; exact yah _ hlt
                            omega
                        rw [if_neg hne]
                        exact ⟨(harel q yy hq j c hj).1.keeps hext.keeps.rwS,(harel q yy hq j c hj).2⟩
                · cases hs
              · cases hs
          · cases hs
        · cases hs
      · cases hs
    · cases hs
end
end Ev
end Go.Proofs.YtncmainjcffanaaGreat
