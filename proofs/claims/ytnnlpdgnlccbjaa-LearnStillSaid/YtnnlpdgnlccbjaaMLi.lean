/-
  Laws of the executor, and walks of functions (part 9). The conditions stand with each law.
-/
import Derived.Laws.IdiomRangeMap
import Derived.Test.YtnnlpdgnlccbjaaMLh
namespace Go.Sx
section
variable {c:Cx} {T:List (Nat×SV)} {M:List (Nat×SObj)} {n:Nat} {D:List Deferred} {ops:Array Oper} {i:Nat} {r:List Nat} {k:List Item} {R:Ending→World→Prop} {o:Oper}
theorem Run.mapRange {t kt et:TypeId}{x:Operand}{j:Nat}{pk:Bool}{l:List (Key×Value)}(ho:get ops.toList i=some o)(hop:o.op = .range t x)(hw:zQ ops.toList (look T) o=some true)(hd:okD c.fn.ntmps o.dst=true)
  (ht:c.P.underlying t=some (.map kt et)) (hx:ev (look T) x=some (.mp j)) (hj:look M j=some (.kmap pk true l))
  (h :∀b hh b2 hh2,Run c ⟨z5 T o.dst (.ptr n 0),(n+1,.pin [(j,b,0,hh),(n,b2,0,hh2)])::(n,.obj (.mapIter (some b) l.length #[] l.length))::M,n+2,D,.inRegion ops r::k⟩ R):Run c ⟨T,M,n,D,.inRegion ops (i::r)::k⟩ R:=by
 refine⟨fun ρ a w hi=> ?_⟩
 rw[q8,Array.getElem?_toList]at ho
 refine TW.op ho (zI hi.tm hw) ?_
 obtain⟨h1,_⟩:=qO hi.tm hx
 obtain⟨hjn,_,hl,hh⟩:=hi.wi.mem j _ hj
 rcases hh with⟨h0,hb⟩|⟨hh,_⟩
 case inr=>cases hh
 simp only[SV.conc,if_pos h0]at h1
 have hb':w.heap[ρ.s j]? = some (.map (zR l) l.length):=hb
 obtain⟨hW',hag⟩:=hi.wi.alloc (i:=n) (Nat.lt_irrefl n) (o:=.obj (.mapIter (some (ρ.s j)) l.length #[] l.length)) (x:=.mapIter (some (ρ.s j)) l.length #[] l.length) trivial (fun ρ' w' _ hs _ hx=>⟨by simp,by rw[hs];exact hx⟩)
 have hjn:j<n:=hjn
 have hjs:(ρ.bind n w.heap.size).s j=ρ.s j∧(ρ.bind n w.heap.size).o j=0:=by
  have:=hag j hjn
  exact⟨this.1,this.2.1.trans h0⟩
 have hWp:=hW'.addR (i:=n+1) (Env.agree.refl _ _) (o:=.pin [(j,ρ.s j,0,(ρ.bind n w.heap.size).h j),(n,w.heap.size,0,(ρ.bind n w.heap.size).h n)]) (fun p hp=>by
  simp at hp
  rcases hp with rfl|rfl
  ·exact .inl hjn
  ·exact .inr rfl) (fun _ _ h=>h) (fun p hp=>by
  simp at hp
  rcases hp with rfl|rfl
  ·exact⟨hjs.1,hjs.2,rfl⟩
  ·exact⟨by simp[Env.bind],by simp[Env.bind],rfl⟩)
 have hW2:WI c.w0 c.L (ρ.bind n w.heap.size) (look ((n+1,.pin [(j,ρ.s j,0,(ρ.bind n w.heap.size).h j),(n,w.heap.size,0,(ρ.bind n w.heap.size).h n)])::(n,.obj (.mapIter (some (ρ.s j)) l.length #[] l.length))::M)) (· < n+2) (w.alloc (.mapIter (some (ρ.s j)) l.length #[] l.length)):=by
  rw[qX,qX]
  exact hWp.mono fun q hq=>by
   have hq:(q<n∨q=n)∨q=n+1:=hq
   omega
 have hinv:=hi.put (ρ':=ρ.bind n w.heap.size) hd hag (Nat.le_add_right n 2) (v:=.ptr n 0) (show n<n+2 by omega) hW2 (.inRegion ops r::k)
 have hrun:(execOp a.eval o).run c.P w = .ok (.value (.pointer (some ⟨w.heap.size,0,none⟩))) (w.alloc (.mapIter (some (ρ.s j)) l.length #[] l.length)):=by
  simp[execOp,hop,h1,Instr.range,run_underlying ht,MapKept.run_getObj_map hb']
 refine Oc.value hrun ?_
 have e:(SV.ptr n 0).conc (ρ.bind n w.heap.size) = .pointer (some ⟨w.heap.size,0,none⟩):=by simp[SV.conc,Env.bind]
 rw[e]at hinv
 exact(h _ _ _ _).go _ _ _ hinv
theorem tP :∀(l:List (Key×Value)) (j:Nat) (e:MapEntry),e∈zX l j → ∃n x,l[n]? = some x∧e={ key:=x.1.val,val:=x.2,born:=j+n }
 | [],j,e,h=>by cases h
 |(a,v)::l,j,e,h=>by
  rcases List.mem_cons.1 h with rfl|h
  ·exact⟨0,(a,v),rfl,rfl⟩
  ·obtain⟨n,x,h1,h2⟩:=tP l (j+1) e h
   exact⟨n+1,x,by simpa using h1,by rw[h2,show j+1+n=j+(n+1)by omega]⟩
theorem run_mapNext {P:Program}{w:World}{b q:Nat}{l:List (Key×Value)}{seen:Array Nat}{ty:TypeId}(hb:w.heap[b]? = some (yL l))(hq:w.heap[q]? = some (.mapIter (some b) l.length seen l.length))(vw:Option Nat) :
  (∃n x w',l[n]? = some x∧n∉seen∧(w'=w∨w'=w.drew)∧(Instr.next (.pointer (some ⟨q,0,vw⟩)) false ty).run P w = .ok (.tuple #[.bool true,x.1.val,x.2]) (World.putO w' q (.mapIter (some b) l.length (seen.push n) l.length))) ∨
  ((∀n,n<l.length→n∈seen)∧(Instr.next (.pointer (some ⟨q,0,vw⟩)) false ty).run P w = .ok (.tuple #[.bool false]) w):=by
 have hb':w.heap[b]? = some (.map (zR l) l.length):=hb
 have hold :∀x∈(zR l).toList,x.born<l.length:=by
  intro e he
  obtain⟨n,x,h1,h2⟩:=tP l 0 e (by simpa[zR]using he)
  have:=(List.getElem?_eq_some_iff.1 h1).1
  rw[h2];simpa using this
 simp only[Instr.next,getObj,Sem.run_bind,Sem.run,hb',hq,Result.andThen,next_test_false seen (zR l) l.length l.length hold (Nat.le_refl _),Bool.false_eq_true,if_false]
 have hmem :∀x∈(Array.filter (fun e=> !seen.contains e.born) (zR l)).toList,x.born<l.length:=fun x hx=>hold x (by simp at hx ⊢;exact hx.1)
 have hsub :∀x∈(Array.filter (fun e=> !seen.contains e.born) (zR l)).toList,x∈(zR l).toList∧x.born∉seen:=fun x hx=>by simpa using hx
 have hall:(Array.filter (fun e=> !seen.contains e.born) (zR l)).size=0 → ∀n,n<l.length→n∈seen:=by
  intro h0 n hn
  have he:=kG l n 0 l[n] (List.getElem?_eq_getElem hn)
  rw[Nat.zero_add]at he
  have hm:({ key:=l[n].1.val,val:=l[n].2,born:=n }:MapEntry)∈zR l:=by
   simp only[zR,List.mem_toArray]
   exact List.mem_of_getElem? he
  have hemp:=Array.eq_empty_of_size_eq_zero h0
  rw[Array.filter_eq_empty_iff]at hemp
  have:=hemp _ hm
  simpa using this
 generalize Array.filter (fun e=> !seen.contains e.born) (zR l)=L at hmem hsub hall ⊢
 have e1:L.filter (fun x=>decide (x.born<l.length))=L:=Array.filter_eq_self.2 (fun x hx=>by simpa using hmem x (by simpa using hx))
 have e2:L.filter (fun x=>decide (x.born ≥ l.length)) = #[]:=by
  rw[Array.filter_eq_empty_iff]
  intro x hx
  have:=hmem x (by simpa using hx)
  simp
  omega
 simp only[e1,e2,Array.append_empty]
 by_cases h0:L.size=0
 ·right
  refine⟨hall h0,?_⟩
  have:L = #[]:=Array.eq_empty_of_size_eq_zero h0
  subst this
  simp[choose,Sem.run,Question.forced]
 ·left
  have hne:L.isEmpty=false:=by simp[Array.isEmpty,h0]
  simp only[hne,Bool.false_eq_true,if_false,Array.empty_append,Array.size_map]
  have hch :∃(j:Nat) (w1:World),j<L.size∧(w1=w∨w1=w.drew)∧(choose (Question.mapNext L.size)).run P w = .ok j w1:=by
   by_cases hf:L.size≤1
   ·exact⟨0,w,by omega,.inl rfl,by simp[choose,Sem.run,Question.forced,hf]⟩
   ·exact⟨_,w.drew,Nat.mod_lt _ (by omega),.inr rfl,by
     simp only[choose,Sem.run,Question.forced,decide_eq_true_eq,hf,if_false,Question.cut]
     rfl⟩
  obtain⟨j,w1,hj,hal,hrun⟩:=hch
  obtain⟨g1,g2⟩:=hsub L[j] (by simp)
  obtain⟨n,x,k1,k2⟩:=tP l 0 L[j] (by simpa[zR]using g1)
  rw[Nat.zero_add]at k2
  refine⟨n,x,w1,k1,?_,hal,?_⟩
  ·rw[k2]at g2;exact g2
  ·have hq1:w1.heap[q]? = some (.mapIter (some b) l.length seen l.length):=by rcases hal with rfl|rfl<;>exact hq
   simp only[hrun,Array.getElem?_map,Array.getElem?_eq_getElem hj,Option.map_some,Sem.run_bind,setObj,Sem.run,hq1,Result.andThen]
   rw[k2]
   rfl
theorem Run.mapNext {x:Operand}{j jm q b b2:Nat}{hh hh2:Option Addr×Nat×Nat}{pk:Bool}{l:List (Key×Value)}{seen:Array Nat}(ho:get ops.toList i=some o)(hop:o.op = .next x false)(hw:zQ ops.toList (look T) o=some true)(hd:okD c.fn.ntmps o.dst=true)
  (hx:ev (look T) x=some (.ptr j 0)) (hj:look M j=some (.obj (.mapIter (some b) l.length seen l.length))) (hjm:look M jm=some (.kmap pk true l)) (hq:look M q=some (.pin [(jm,b,0,hh),(j,b2,0,hh2)]))
  (h1 :∀m e,l[m]? = some e→m∉seen→Run c ⟨z5 T o.dst (.tup [.v (.bool true),.v e.1.val,.v e.2]),(j,.obj (.mapIter (some b) l.length (seen.push m) l.length))::M,n,D,.inRegion ops r::k⟩ R)
  (h2:(∀m,m<l.length→m∈seen)→Run c ⟨z5 T o.dst (.tup [.v (.bool false)]),M,n,D,.inRegion ops r::k⟩ R):Run c ⟨T,M,n,D,.inRegion ops (i::r)::k⟩ R:=by
 refine⟨fun ρ a w hi=> ?_⟩
 rw[q8,Array.getElem?_toList]at ho
 refine TW.op ho (zI hi.tm hw) ?_
 obtain⟨e1,_⟩:=qO hi.tm hx
 have hj0:ρ.o j=0:=((hi.wi.mem q _ hq).2.2 (j,b2,0,hh2) (by simp)).2.1
 simp only[SV.conc,hj0,Nat.add_zero]at e1
 obtain⟨_,_,_,hm⟩:=hi.wi.mem j _ hj
 have hpin:ρ.s jm=b:=((hi.wi.mem q _ hq).2.2 (jm,b,0,hh) (by simp)).1
 obtain⟨_,_,_,hk⟩:=hi.wi.mem jm _ hjm
 have hb:w.heap[b]? = some (yL l):=by
  rcases hk with⟨_,hk⟩|⟨hk,_⟩
  ·rw[←hpin];exact hk
  ·cases hk
 rcases run_mapNext (P:=c.P) (ty:=o.type) hb hm none with⟨m,e,w',g1,g2,g3,g4⟩|⟨g1,g2⟩
 ·have hx:Ext w w':=by
   rcases g3 with rfl|rfl
   ·exact Ext.refl _
   ·exact Ext.drew _
  have hW':=(hi.wi.ext hx).putO (o':=.mapIter (some b) l.length (seen.push m) l.length) hj (by simp)
  refine Oc.value (w':=World.putO w' (ρ.s j) (.mapIter (some b) l.length (seen.push m) l.length)) (v:=SV.conc ρ (.tup [.v (.bool true),.v e.1.val,.v e.2])) (by simp[execOp,hop,e1,g4,SV.conc,SV.concs]) ?_
  exact(h1 m e g1 g2).go ρ _ _ (hi.put hd (Env.agree.refl _ ρ) (Nat.le_refl _) (v:=.tup [.v (.bool true),.v e.1.val,.v e.2]) ⟨trivial,trivial,trivial,trivial⟩ (by rw[qX];exact hW') _)
 ·refine Oc.value (w':=w) (v:=SV.conc ρ (.tup [.v (.bool false)])) (by simp[execOp,hop,e1,g2,SV.conc,SV.concs]) ?_
  exact(h2 g1).go ρ _ _ (hi.put hd (Env.agree.refl _ ρ) (Nat.le_refl _) (v:=.tup [.v (.bool false)]) ⟨trivial,trivial⟩ hi.wi _)
theorem sL :∀(l:List (Key×Value)) (j:Nat),((zX l j).map (·.born)).Nodup ∧ ∀e∈zX l j,j≤e.born
 | [],j=>⟨by simp[zX],fun e h=>by cases h⟩
 |(a,v)::l,j=>by
  obtain⟨h1,h2⟩:=sL l (j+1)
  refine⟨?_,fun e he=> ?_⟩
  ·simp only[zX,List.map_cons,List.nodup_cons]
   refine⟨fun hm=> ?_,h1⟩
   obtain⟨e,he,hb⟩:=List.mem_map.1 hm
   have:=h2 e he
   omega
  ·rcases List.mem_cons.1 he with rfl|he
   ·exact Nat.le_refl _
   ·have:=h2 e he;omega
theorem Run.mapEntry {x:Operand}{j jm q b b2 m:Nat}{hh hh2:Option Addr×Nat×Nat}{pk:Bool}{l:List (Key×Value)}{seen:Array Nat}{e:Key×Value}(ho:get ops.toList i=some o)(hop:o.op = .entry x)(hw:zQ ops.toList (look T) o=some true)(hd:okD c.fn.ntmps o.dst=true)
  (hx:ev (look T) x=some (.ptr j 0)) (hj:look M j=some (.obj (.mapIter (some b) l.length (seen.push m) l.length))) (hjm:look M jm=some (.kmap pk true l)) (hq:look M q=some (.pin [(jm,b,0,hh),(j,b2,0,hh2)])) (he:l[m]? = some e)
  (ks vs:SV) (hks:ks.sc (· < n)) (hkc :∀ ρ,ks.conc ρ=e.1.val) (hvs:vs.sc (· < n)) (hvc :∀ ρ,vs.conc ρ=e.2)
  (h:Run c ⟨z5 T o.dst (.tup [ks,vs]),M,n,D,.inRegion ops r::k⟩ R):Run c ⟨T,M,n,D,.inRegion ops (i::r)::k⟩ R:=by
 refine⟨fun ρ a w hi=> ?_⟩
 rw[q8,Array.getElem?_toList]at ho
 refine TW.op ho (zI hi.tm hw) ?_
 obtain⟨e1,_⟩:=qO hi.tm hx
 have hj0:ρ.o j=0:=((hi.wi.mem q _ hq).2.2 (j,b2,0,hh2) (by simp)).2.1
 simp only[SV.conc,hj0,Nat.add_zero]at e1
 obtain⟨_,_,_,hm⟩:=hi.wi.mem j _ hj
 have hpin:ρ.s jm=b:=((hi.wi.mem q _ hq).2.2 (jm,b,0,hh) (by simp)).1
 obtain⟨_,_,_,hk⟩:=hi.wi.mem jm _ hjm
 have hb:w.heap[b]? = some (.map (zR l) l.length):=by
  rcases hk with⟨_,hk⟩|⟨hk,_⟩
  ·rw[←hpin];exact hk
  ·cases hk
 have hent:=kG l m 0 e he
 rw[Nat.zero_add]at hent
 have hfind:(zR l).find? (·.born==m)=some { key:=e.1.val,val:=e.2,born:=m }:=by
  have:=find_born { key:=e.1.val,val:=e.2,born:=m } (zX l 0) (sL l 0).1 (List.mem_of_getElem? hent)
  rw[←Array.find?_toList]
  exact this
 have hrun:(Instr.entry (.pointer (some ⟨ρ.s j,0,none⟩))).run c.P w = .ok (.tuple #[e.1.val,e.2]) w:=by
  simp only[Instr.entry,getObj,Sem.run_bind,Sem.run,hm,hb,Result.andThen,Array.back?_push,bne_self_eq_false,Bool.false_eq_true,if_false,hfind]
  rfl
 refine Oc.value (w':=w) (v:=SV.conc ρ (.tup [ks,vs])) (by simp[execOp,hop,e1,hrun,SV.conc,SV.concs,hkc,hvc]) ?_
 exact h.go ρ _ _ (hi.put hd (Env.agree.refl _ ρ) (Nat.le_refl _) (v:=.tup [ks,vs]) ⟨hks,hvs,trivial⟩ hi.wi _)
end
end Go.Sx
namespace Go.Sx
def jQ {A:Type}(q:A→Bool)(f:A→A):Nat→A→A
 | 0,a=>a
 |k+1,a=>match q a with
  |true=>jQ q f k (f a)
  |false=>a
section
variable {c:Cx} {T:List (Nat×SV)} {n:Nat} {D:List Deferred} {todo:List Item} {R:Ending→World→Prop}
theorem Run.whileN {A:Type}{M:A→List (Nat×SObj)}(q:A→Bool)(f:A→A)(P:A→Prop)(k:Nat)(a:A)(hP:P a)(hPf :∀a,P a→P (f a))(hfin:q (jQ q f k a)=false)
  (hstep :∀a,P a→q a=true→Run c ⟨T,M (f a),n,D,todo⟩ R→Run c ⟨T,M a,n,D,todo⟩ R) (hend:P (jQ q f k a)→q (jQ q f k a)=false→Run c ⟨T,M (jQ q f k a),n,D,todo⟩ R):Run c ⟨T,M a,n,D,todo⟩ R:=by
 induction k generalizing a with
 |zero=>exact hend hP hfin
 |succ k ih=>
  unfold jQ at hfin hend
  cases hq:q a with
  |false=>
   simp only[hq]at hfin hend
   exact hend hP trivial
  |true=>
   simp only[hq]at hfin hend
   exact hstep a hP hq (ih (f a) (hPf a hP) hfin hend)
theorem Run.overMap {M:List Nat→List (Nat×SObj)}(N:Nat)(hstep :∀ks:List Nat,ks.Nodup→(∀k∈ks,k<N)→(∀m,m<N→m∉ks→Run c ⟨T,M (ks++[m]),n,D,todo⟩ R)→Run c ⟨T,M ks,n,D,todo⟩ R):Run c ⟨T,M [],n,D,todo⟩ R:=by
 have key :∀(fuel:Nat) (ks:List Nat),ks.Nodup→(∀k∈ks,k<N)→N≤ks.length+fuel→Run c ⟨T,M ks,n,D,todo⟩ R:=by
  intro fuel
  induction fuel with
  |zero=>
   intro ks hn hl hf
   refine hstep ks hn hl fun m hm hmk=> ?_
   exfalso
   have h1:(m::ks).Nodup:=List.nodup_cons.2 ⟨hmk,hn⟩
   have h2:(m::ks).length≤(List.range N).length:=List.Nodup.length_le_of_subset h1 fun x hx=>by
    rcases List.mem_cons.1 hx with rfl|hx
    ·exact List.mem_range.2 hm
    ·exact List.mem_range.2 (hl x hx)
   simp at h2;omega
  |succ fuel ih=>
   intro ks hn hl hf
   refine hstep ks hn hl fun m hm hmk=>ih _ ?_ ?_ ?_
   ·exact List.nodup_append.2 ⟨hn,by simp,fun a ha b hb=>by simp at hb;subst hb;exact fun e=>hmk (e▸ha)⟩
   ·intro k hk
    rcases List.mem_append.1 hk with hk|hk
    ·exact hl k hk
    ·simp at hk;omega
   ·simp;omega
 exact key N [] (by simp) (fun k hk=>by cases hk) (by simp)
theorem Run.rC {T':List (Nat×SV)}{M M':List (Nat×SObj)}(r:Nat→Nat)(n':Nat)(hinj :∀i,i<n' → ∀j,j<n'→i≠j→r i≠r j)(hT:AllP (fun x=>look T x.1=some (x.2.ren r)∧x.2.sc (· < n')) T')
  (hM:AllP (fun x=>look M (r x.1)=some (x.2.ren r)∧x.1<n'∧x.2.sc (· < n')) M') (hL :∀p∈c.L,r p.1=p.1∧p.1<n') (h:Run c ⟨T',M',n',D,todo⟩ R):Run c ⟨T,M,n,D,todo⟩ R:=
 Run.less (s':=⟨T',M',n',D,todo⟩) r ⟨hT.mem,hM.mem,fun x hx y hy h=>hinj _ (hM.mem x hx).2.1 _ (hM.mem y hy).2.1 h,hL,rfl,rfl⟩ h
end
def rq (l:List (Nat×Nat))(i:Nat):Nat:=
 match look l i with
 |some j=>j
 |none=>i
theorem zG {l:List (Nat×Nat)}{i:Nat}(h:look l i=none):rq l i=i:=by unfold rq;rw[h]
theorem jK {q:Nat}{pl:List (Nat×Nat×Nat×(Option Addr×Nat×Nat))}{r:Nat→Nat}(hc:jW q pl)(h :∀i,i<q→r i=i):(SObj.pin pl).ren r = .pin pl:=by
 simp only[SObj.ren]
 congr 1
 have:pl.map (fun p=>(r p.1,p.2))=pl.map id:=List.map_congr_left fun p hp=>by simp[h _ (hc.1 p hp)]
 rw[this,List.map_id]
end Go.Sx
namespace Go.Sx
theorem Run.tH {c:Cx}{T T':List (Nat×SV)}{M M':List (Nat×SObj)}{n n':Nat}{D:List Deferred}{todo:List Item}{R:Ending→World→Prop}(h:Run c ⟨T',M',n',D,todo⟩ R)(hT:AllP (fun x=>look T x.1=some x.2∧x.2.sc (· < n')) T')
  (hM:AllP (fun x=>look M x.1=some x.2∧x.1<n'∧x.2.sc (· < n')) M') (hL :∀p∈c.L,p.1<n'):Run c ⟨T,M,n,D,todo⟩ R:=Run.s6 n' hT hM hL h
theorem Run.lJ {c:Cx}{T0:List (Nat×SV)}{M0:List (Nat×SObj)}{n0:Nat}{T:Nat→List (Nat×SV)}{M:Nat→List (Nat×SObj)}{D:List Deferred}{todo:List Item}{R:Ending→World→Prop}(n:Nat)(J:Nat→Prop)(N:Nat)
  (hT:AllP (fun x=>look T0 x.1=some x.2∧x.2.sc (· < n)) (T 0)) (hM:AllP (fun x=>look M0 x.1=some x.2∧x.1<n∧x.2.sc (· < n)) (M 0)) (hL :∀p∈c.L,p.1<n) (h0:J 0)
  (hstep :∀i,i<N→J i→(J (i+1)→Run c ⟨T (i+1),M (i+1),n,D,todo⟩ R)→Run c ⟨T i,M i,n,D,todo⟩ R) (hend:J N→Run c ⟨T N,M N,n,D,todo⟩ R):Run c ⟨T0,M0,n0,D,todo⟩ R:=
 Run.s6 n hT hM hL (Run.rD J N h0 hstep hend)
end Go.Sx
namespace Go.Proofs.Ytnnlpdgnlccbjaa
open Go.Sx
set_option maxRecDepth 100000
set_option maxHeartbeats 4000000
def Key.fst:Key→Int
 | .p a _=>a
 | .i a=>a
def Key.snd:Key→Int
 | .p _ b=>b
 | .i a=>a
def ent0:Key×Value:=(.p 0 0,.int .i64 0)
def qUp (x:Int×List Mrk):Bool:=decide (0<x.1)
def qDn (x:Int×List Mrk):Bool:=decide (x.1<0)
def yC (S:List Syn)(rs:List Rul)(pl:List Int)(k:Key)(x:Int×List Mrk):Int×List Mrk:=jQ qUp (rdL S pl (Key.fst k) (Key.snd k) (rs.getD (Key.fst k).toNat jB).hi 1) x.1.toNat x
def xD (S:List Syn)(rs:List Rul)(pl:List Int)(k:Key)(x:Int×List Mrk):Int×List Mrk:=jQ qDn (rdL S pl (Key.fst k) (Key.snd k) (rs.getD (Key.fst k).toNat jB).lo (-1)) (-x.1).toNat x
def yF (S:List Syn)(rs:List Rul)(pl:List Int)(tot:List (Key×Value))(m:List Mrk)(e:Key×Value):List Mrk:=(xD S rs pl e.1 (yC S rs pl e.1 (W (kiv tot e.1-ival e.2),m))).2
def jZ (S:List Syn)(rs:List Rul)(pl:List Int)(tot l:List (Key×Value))(m:List Mrk)(ks:List Nat):List Mrk:=ks.foldl (fun m i=>yF S rs pl tot m (l.getD i ent0)) m
def RestOK (S:List Syn)(rs:List Rul)(pl:List Int)(tot l:List (Key×Value))(m:List Mrk):Prop:=
 ∀ks i,(ks++[i]).Nodup→(∀k∈ks++[i],k<l.length) →
  qUp (yC S rs pl (l.getD i ent0).1 (W (kiv tot (l.getD i ent0).1-ival (l.getD i ent0).2),jZ S rs pl tot l m ks))=false ∧
  qDn (xD S rs pl (l.getD i ent0).1 (yC S rs pl (l.getD i ent0).1 (W (kiv tot (l.getD i ent0).1-ival (l.getD i ent0).2),jZ S rs pl tot l m ks)))=false
theorem rdL_len (S:List Syn)(pl:List Int)(r p to by_:Int)(x:Int×List Mrk):(rdL S pl r p to by_ x).2.length=x.2.length:=gV S pl r p to by_ _ x
theorem tN {q:Int×List Mrk→Bool}{f:Int×List Mrk→Int×List Mrk}(hf :∀x,(f x).2.length=x.2.length) :∀(k:Nat) (x:Int×List Mrk),(jQ q f k x).2.length=x.2.length
 | 0,_=>rfl
 |k+1,x=>by
  unfold jQ
  cases q x with
  |false=>rfl
  |true=>exact(tN hf k (f x)).trans (hf x)
theorem restG_len (S:List Syn)(rs:List Rul)(pl:List Int)(tot:List (Key×Value))(m:List Mrk)(e:Key×Value):(yF S rs pl tot m e).length=m.length:=by
 unfold yF xD yC
 rw[tN (fun x=>rdL_len _ _ _ _ _ _ x),tN (fun x=>rdL_len _ _ _ _ _ _ x)]
theorem kI (S:List Syn)(rs:List Rul)(pl:List Int)(tot l:List (Key×Value)) :∀(ks:List Nat) (m:List Mrk),(jZ S rs pl tot l m ks).length=m.length
 | [],_=>rfl
 |i::ks,m=>by
  unfold jZ
  rw[List.foldl_cons]
  exact(kI S rs pl tot l ks _).trans (restG_len ..)
theorem restK_snoc (S:List Syn)(rs:List Rul)(pl:List Int)(tot l:List (Key×Value))(m:List Mrk)(ks:List Nat)(i:Nat):jZ S rs pl tot l m (ks++[i])=yF S rs pl tot (jZ S rs pl tot l m ks) (l.getD i ent0):=by
 unfold jZ
 rw[List.foldl_append];rfl
theorem vU :∀{l:List (Nat×Nat)} {i:Nat},l.all (fun p=>Nat.ble 24 p.1)=true→i<24→Sx.look l i=none
 | [],_,_,_=>rfl
 |(a,b)::l,i,h,hi=>by
  simp only[List.all_cons,Bool.and_eq_true]at h
  have:=Nat.le_of_ble_eq_true h.1
  rw[qP,if_neg (by omega)]
  exact vU h.2 hi
theorem kput_keys :∀{l:List (Key×Value)} {k:Key} {v:Value} {x:Key×Value},x∈zK l k v→x.1=k ∨ ∃y∈l,y.1=x.1
 | [],k,v,x,h=>by simp[zK]at h;subst h;exact .inl rfl
 |(a,u)::l,k,v,x,h=>by
  unfold zK at h
  split at h
  ·rcases List.mem_cons.1 h with rfl|h
   ·exact .inr ⟨_,List.mem_cons_self ..,rfl⟩
   ·exact .inr ⟨x,List.mem_cons_of_mem _ h,rfl⟩
  ·rcases List.mem_cons.1 h with rfl|h
   ·exact .inr ⟨_,List.mem_cons_self ..,rfl⟩
   ·rcases kput_keys h with h|⟨y,hy,hye⟩
    ·exact .inl h
    ·exact .inr ⟨y,List.mem_cons_of_mem _ hy,hye⟩
def SumE (S:List Syn)(rs:List Rul)(pl:List Int)(x:Key×Value):Prop:=(∃n,x.2 = .int .i64 n) ∧ ∃i∈zD pl,(rs.getD (pl.getD i (-1)).toNat jB).sum=true∧x.1 = .p (pl.getD i (-1)) (S.getD i zC).to
theorem sumStep_E {S:List Syn}{rs:List Rul}{pl:List Int}{m:List Mrk}{acc:List (Key×Value)}{i:Nat}(hi:i∈zD pl)(h :∀x∈acc,SumE S rs pl x) :∀x∈jG S rs pl m acc i,SumE S rs pl x:=by
 unfold jG
 split
 ·rename_i hs
  intro x hx
  refine⟨?_,?_⟩
  ·rcases kput_mem hx with h1|h1
   ·exact⟨_,h1⟩
   ·exact(h x h1).1
  ·rcases kput_keys hx with h1|⟨y,hy,hye⟩
   ·exact⟨i,hi,hs,h1⟩
   ·obtain⟨j,hj,hs',e⟩:=(h y hy).2
    exact⟨j,hj,hs',hye▸e⟩
 ·exact h
theorem sumsL_E (S:List Syn)(rs:List Rul)(pl:List Int)(m:List Mrk) :∀x∈qH S rs pl m,SumE S rs pl x:=by
 have :∀(l:List Nat) (acc:List (Key×Value)),(∀i∈l,i∈zD pl)→(∀x∈acc,SumE S rs pl x) → ∀x∈l.foldl (jG S rs pl m) acc,SumE S rs pl x:=by
  intro l
  induction l with
  |nil=>intro acc _ h;exact h
  |cons a l ih=>intro acc hl h;exact ih _ (fun i hi=>hl i (List.mem_cons_of_mem _ hi)) (sumStep_E (hl a (List.mem_cons_self ..)) h)
 exact this _ _ (fun _ h=>h) (fun x hx=>by cases hx)
def rstM (C:List SV)(S:List Syn)(rs:List Rul)(pl:List Int)(tot:List (Key×Value))(m:List Mrk):List (Nat×SObj):=[(0,.cells C 96),(2,.rwin 4 S.length (S.flatMap Syn.vals)),(4,.rwin 10 rs.length (rs.flatMap Rul.vals)),(5,.rwin 1 pl.length (qD pl)),(6,.row 4 pl.length (m.flatMap Mrk.cells) 84),(7,.kwin true tot)]
theorem restore_spec (tk:SV)(inp:Int)(rg:Nat→SV)(S:List Syn)(rs:List Rul)(pl:List Int)(tot:List (Key×Value))(m m':List Mrk)(hsc:SV.scs (· < 24) (qJ tk inp rg (.mp 7)))(h1:pl.length=S.length)(h2:m.length=S.length)(h3 :∀i (h:i<pl.length),pl[i]<(rs.length:Int))(hS:S.length≤8192)(hti:KInt tot)
  (hok:RestOK S rs pl tot (qH S rs pl m) m) (hm' :∀ks,ks.Nodup→(∀k∈ks,k<(qH S rs pl m).length)→(∀k,k<(qH S rs pl m).length→k∈ks)→jZ S rs pl tot (qH S rs pl m) m ks=m') :
  BSpec Try.prog 83 [.ptr 0 0] (rstM (qJ tk inp rg (.mp 7)) S rs pl tot m) 24 [0,6] (.tup []) (rstM (qJ tk inp rg (.mp 7)) S rs pl tot m') 24:=by
 have hc :∀w L' rd,(∀p,rd=some p→p∈L')→Cx.ok ⟨Try.prog,tab,[],83,Try.f83,[],w,L',rd⟩:=fun w L' rd h=>⟨qI,trivial,Try.func83,mixed,h⟩
 have fix :∀{a b:Nat},a≤b → ∀{cs:List SV},SV.scs (· < a) cs→SV.rens (sh a b) cs=cs:=fun _ _ h=>qY (fun i hi=>x5 i hi) _ h
 have hCC :∀a b,24≤a→SObj.cells (qJ tk inp rg (.mp 7)) 96=(SObj.cells (qJ tk inp rg (.mp 7)) 96).ren (sh a b):=fun a b h=>by
  simp only[SObj.ren];rw[qY (fun i hi=>x5 i hi) _ (SV.s7 h hsc)]
 have hlr :∀(l:List (Nat×Nat)),(∀i,i<24→Sx.look l i=none)→SObj.cells (qJ tk inp rg (.mp 7)) 96=(SObj.cells (qJ tk inp rg (.mp 7)) 96).ren (rq l):=fun l h=>by
  simp only[SObj.ren];rw[qY (fun i hi=>zG (h i hi)) _ hsc]
 refine BSpec.start (tab:=tab) (pf:=[]) (cuts:=[]) Try.func83 rfl ⟨ltb rfl,trivial⟩ rfl fun w L0 plp hL hLB hcov=>Run.s0 (hc w L0 none nofun) 100 _ ?_
 conv=>whnf
 refine Run.rF (vs:=[.ptr 0 0]) (caps:=[]) (sums_spec tk inp rg (.mp 7) S rs pl m hsc h1 h2 h3 hS) (ent _ _ Try.func66 (by kernel_rfl) rfl) rfl rfl rfl rfl rfl rfl rfl (by decide) (by decide) (by repeat first|exact trivial|refine⟨⟨by omega,hsc,⟨_,rfl,Conv.refl _⟩,.inr (by simp),fun h=>by cases h⟩,?_⟩|refine⟨⟨by omega,trivial,⟨_,rfl,Conv.refl _⟩,.inl rfl,fun _=>by simp⟩,?_⟩|refine⟨⟨by omega,trivial,⟨_,rfl,by rw[h1,←h2];exact Conv.row (by decide) (uF m)⟩,.inl rfl,fun _=>by simp⟩,?_⟩)
  (fun i hi=>by simp at hi;subst hi;exact⟨by omega,_,rfl⟩) (.mp 26)
  [(26,.kmap true true (qH S rs pl m)),(25,.cells [.ptr 0 0] 64),(24,.pin plp),(0,.cells (qJ tk inp rg (.mp 7)) 96),(2,.rwin 4 S.length (S.flatMap Syn.vals)),(4,.rwin 10 rs.length (rs.flatMap Rul.vals)),(5,.rwin 1 pl.length (qD pl)),(6,.row 4 pl.length (m.flatMap Mrk.cells) 84),(7,.kwin true tot)] 27 rfl rfl (by repeat first|exact trivial|refine⟨.inr ⟨24,_,rfl,rfl,rfl,rfl⟩,?_⟩|refine⟨.inr ⟨0,_,rfl,rfl,hCC _ _ (by decide),rfl⟩,?_⟩|refine⟨.inl ⟨rfl,by simp⟩,?_⟩) ?_
 refine Run.s0 (hc w L0 none nofun) 100 _ ?_
 conv=>whnf
 refine Run.mapRange rfl rfl rfl rfl rfl rfl rfl fun b hh b2 hh2=> ?_
 refine Run.s0 (hc w L0 none nofun) 100 _ ?_
 conv=>whnf
 have hG:(qH S rs pl m).length=(qH S rs pl m).length:=rfl
 refine Run.rC id 29 (fun _ _ _ _ h=>h) (T':=[(1,.ptr 25 0),(8,.ptr 27 0)]) (M':=[(25,.cells [.ptr 0 0] 64),(26,.kmap true true (qH S rs pl m)),(27,.obj (.mapIter (some b) (qH S rs pl m).length (([]:List Nat)).toArray (qH S rs pl m).length)),(28,.pin [(26,b,0,hh),(27,b2,0,hh2)]),(24,.pin plp),(0,.cells (qJ tk inp rg (.mp 7)) 96),(2,.rwin 4 S.length (S.flatMap Syn.vals)),(4,.rwin 10 rs.length (rs.flatMap Rul.vals)),(5,.rwin 1 pl.length (qD pl)),(6,.row 4 pl.length ((jZ S rs pl tot (qH S rs pl m) m ([]:List Nat)).flatMap Mrk.cells) 84),(7,.kwin true tot)])
  ⟨⟨rfl,ltb rfl⟩,⟨rfl,ltb rfl⟩,trivial⟩
  ⟨⟨by rw[qC];rfl,by omega,ltb rfl,trivial⟩,⟨by rw[qC];rfl,by omega,trivial⟩,⟨by rw[qC];rfl,by omega,trivial⟩,⟨by rw[qC];rfl,by omega,by simp[SObj.sc]⟩,⟨by rw[qC];rfl,by omega,pnx hcov rfl⟩,⟨by rw[qC];rfl,by omega,SV.s7 (by decide) hsc⟩,⟨rfl,by omega,Os.h _⟩,⟨rfl,by omega,Os.h _⟩,⟨rfl,by omega,Os.h _⟩,⟨by rw[qC];rfl,by omega,Os.h _⟩,⟨by rw[qC];rfl,by omega,trivial⟩,trivial⟩ (fun q hq=>⟨rfl,by have:=hLB q hq;omega⟩) ?_
 refine Run.overMap (M:=fun ks=>[(25,.cells [.ptr 0 0] 64),(26,.kmap true true (qH S rs pl m)),(27,.obj (.mapIter (some b) (qH S rs pl m).length (ks).toArray (qH S rs pl m).length)),(28,.pin [(26,b,0,hh),(27,b2,0,hh2)]),(24,.pin plp),(0,.cells (qJ tk inp rg (.mp 7)) 96),(2,.rwin 4 S.length (S.flatMap Syn.vals)),(4,.rwin 10 rs.length (rs.flatMap Rul.vals)),(5,.rwin 1 pl.length (qD pl)),(6,.row 4 pl.length ((jZ S rs pl tot (qH S rs pl m) m ks).flatMap Mrk.cells) 84),(7,.kwin true tot)]) (qH S rs pl m).length fun ks hnd hlt ih=> ?_
 refine Run.s0 (hc w L0 none nofun) 100 _ ?_
 conv=>whnf
 refine Run.mapNext (j:=27) (jm:=26) (q:=28) rfl rfl rfl rfl rfl rfl rfl rfl (fun ix e he hix=> ?_) (fun hall=> ?_)
 ·have hixl:ix<(qH S rs pl m).length:=(List.getElem?_eq_some_iff.1 he).1
  have hixk:ix∉ks:=fun h=>hix (by simpa using h)
  have hnd2:(ks++[ix]).Nodup:=List.nodup_append.2 ⟨hnd,by simp,fun a ha b hb=>by simp at hb;subst hb;exact fun e=>hixk (e▸ha)⟩
  have hlt2 :∀k∈ks++[ix],k<(qH S rs pl m).length:=fun k hk=>by
   rcases List.mem_append.1 hk with h|h
   ·exact hlt k h
   ·simp at h;omega
  have hok1:=hok ks ix hnd2 hlt2
  have hsn:=restK_snoc S rs pl tot (qH S rs pl m) m ks ix
  have hrl:=kI S rs pl tot (qH S rs pl m) ks m
  have hgd:(qH S rs pl m).getD ix ent0=e:=by rw[List.getD_eq_getElem?_getD,he];rfl
  obtain⟨⟨sv,hsv⟩,jx,hjx,hsum,hkey⟩:=sumsL_E S rs pl m e (List.mem_of_getElem? he)
  obtain⟨k,v⟩:=e
  simp only at hsv hkey
  obtain⟨hjl,hj0⟩:=uQ hjx
  have hjd:pl.getD jx (-1)=pl[jx]:=by simp[List.getD_eq_getElem?_getD,hjl]
  rw[hjd]at hkey
  have h3j:=h3 jx hjl
  generalize pl[jx]=r at hkey hj0 h3j
  generalize(S.getD jx zC).to=p at hkey
  subst hsv hkey
  have hkr:r.toNat<rs.length:=by omega
  have hrd:rs.getD r.toNat jB=rs[r.toNat]:=by simp[List.getD_eq_getElem?_getD,hkr]
  rw[hgd]at hok1 hsn
  unfold yF at hsn
  simp only[ival]at hok1 hsn
  unfold yC xD at hok1 hsn
  simp only[Key.fst,Key.snd,hrd]at hok1 hsn
  obtain⟨hokU,hokD⟩:=hok1
  generalize hmm:jZ S rs pl tot (qH S rs pl m) m ks=mm at hokU hokD hsn hrl
  have hmm2:mm.length=S.length:=hrl.trans h2
  have hseen:ks.toArray.push ix=(ks++[ix]).toArray:=List.push_toArray ks ix
  rw[hseen]
  refine Run.s0 (hc w L0 none nofun) 100 _ ?_
  conv=>whnf
  refine Run.mapEntry (j:=27) (jm:=26) (q:=28) (m:=ix) (seen:=ks.toArray) rfl rfl rfl rfl rfl (by rw[hseen];rfl) rfl rfl he (.agg [ii r,ii p]) (ii sv) ⟨trivial,trivial,trivial⟩ (fun _=>rfl) trivial (fun _=>rfl) ?_
  refine Run.s0 (hc w L0 none nofun) 100 _ ?_
  conv=>whnf
  refine Run.draw (hc w L0 none nofun) 9 ?_
  rw[show qG 0 9=qG 0 8++qG 8 1 from rfl]
  simp only[qV]
  conv=>whnf
  rw[kint_get hti]
  conv=>whnf
  refine⟨by kernel_rfl,?_⟩
  refine Run.W2 hc ?_
  conv=>whnf
  refine Run.rC (rq [(24,25),(25,38),(26,29),(27,26),(28,27),(29,28),(30,24)]) 31 (by decide) (T':=[(1,.ptr 24 0),(2,.ptr 26 0),(4,.ptr 25 0),(5,.fn 104 [.ptr 24 0,.ptr 25 0,.ptr 26 0]),(8,.ptr 28 0)]) (M':=[(30,.pin plp),(27,.kmap true true (qH S rs pl m)),(28,.obj (.mapIter (some b) (qH S rs pl m).length (ks++[ix]).toArray (qH S rs pl m).length)),(29,.pin [(27,b,0,hh),(28,b2,0,hh2)]),(24,.cells [.ptr 0 0] 64),(25,.cells [ii (W (kiv tot (Key.p r p)-sv),mm).1] 3),(26,.cells [ii r,ii p] 175),(0,.cells (qJ tk inp rg (.mp 7)) 96),(2,.rwin 4 S.length (S.flatMap Syn.vals)),(4,.rwin 10 rs.length (rs.flatMap Rul.vals)),(5,.rwin 1 pl.length (qD pl)),(6,.row 4 pl.length ((W (kiv tot (Key.p r p)-sv),mm).2.flatMap Mrk.cells) 84),(7,.kwin true tot)])
   ⟨⟨rfl,ltb rfl⟩,⟨rfl,ltb rfl⟩,⟨rfl,ltb rfl⟩,⟨rfl,ltb rfl,(show 25<31 by decide),ltb rfl,trivial⟩,⟨rfl,ltb rfl⟩,trivial⟩
   ⟨⟨congrArg some (jK hcov fun i hi=>zG (vU (by decide) hi)).symm,by omega,pnx hcov rfl⟩,⟨rfl,by omega,Os.h _⟩,⟨rfl,by omega,Os.h _⟩,⟨rfl,by omega,by simp[SObj.sc]⟩,⟨rfl,by omega,ltb rfl,trivial⟩,⟨rfl,by omega,trivial,trivial⟩,⟨rfl,by omega,trivial,trivial,trivial⟩,⟨congrArg some (hlr _ (fun i hi=>vU (by decide) hi)),by omega,SV.s7 (by decide) hsc⟩,⟨rfl,by omega,Os.h _⟩,⟨rfl,by omega,Os.h _⟩,⟨rfl,by omega,Os.h _⟩,⟨congrArg some (by simp only[SObj.ren];rw[qY (S:=fun _=>False) (fun i hi=>hi.elim) _ (qN _ _)]),by omega,Os.h _⟩,⟨rfl,by omega,Os.h _⟩,trivial⟩ (fun q hq=>⟨zG (vU (by decide) (hLB q hq)),by have:=hLB q hq;omega⟩) ?_
  refine Run.whileN (M:=fun x=>[(30,.pin plp),(27,.kmap true true (qH S rs pl m)),(28,.obj (.mapIter (some b) (qH S rs pl m).length (ks++[ix]).toArray (qH S rs pl m).length)),(29,.pin [(27,b,0,hh),(28,b2,0,hh2)]),(24,.cells [.ptr 0 0] 64),(25,.cells [ii x.1] 3),(26,.cells [ii r,ii p] 175),(0,.cells (qJ tk inp rg (.mp 7)) 96),(2,.rwin 4 S.length (S.flatMap Syn.vals)),(4,.rwin 10 rs.length (rs.flatMap Rul.vals)),(5,.rwin 1 pl.length (qD pl)),(6,.row 4 pl.length (x.2.flatMap Mrk.cells) 84),(7,.kwin true tot)]) qUp (rdL S pl r p rs[r.toNat].hi 1) (fun x=>x.2.length=S.length) _ (W (kiv tot (Key.p r p)-sv),mm) hmm2 (fun x hx=>(rdL_len _ _ _ _ _ _ x).trans hx) hokU (fun x hx hq ih2=> ?_) (fun hx hq=> ?_)
  ·refine Run.W2 hc ?_
   conv=>whnf
   have hq':0<x.1:=of_decide_eq_true hq
   cases hb1:decide (0<x.1)
   case false=>exact absurd hq' (of_decide_eq_false hb1)
   conv=>whnf
   refine Run.draw (hc w L0 none nofun) 10 ?_
   rw[show qG 0 10=qG 0 8++qG 8 2 from rfl]
   simp only[qV]
   conv=>whnf
   refine⟨by omega,?_⟩
   conv=>whnf
   rw[q9 (f:=Rul.vals) (l:=rs) (c:=.int .i64 rs[r.toNat].hi) r.toNat 8 rfl rfl rfl rfl Rul.vlen (by rw[j9]) hkr (by decide) rfl]
   conv=>whnf
   refine⟨by kernel_rfl,?_⟩
   refine Run.rF (vs:=[ii rs[r.toNat].hi,ii 1]) (caps:=[.ptr 24 0,.ptr 25 0,.ptr 26 0]) (round_spec tk inp rg (.mp 7) S pl r p x.1 rs[r.toNat].hi 1 x.2 hsc h1 hx hS) (ent _ _ Try.func104 (by kernel_rfl) rfl) rfl rfl rfl rfl rfl rfl rfl (by decide) (by decide)
    ⟨⟨by omega,⟨ltb rfl,trivial⟩,⟨_,rfl,Conv.refl _⟩,.inr (by simp),fun h=>by cases h⟩,⟨by omega,⟨trivial,trivial⟩,⟨_,rfl,Conv.refl _⟩,.inr (by simp),fun h=>by cases h⟩,⟨by omega,⟨trivial,trivial,trivial⟩,⟨_,rfl,Conv.refl _⟩,.inr (by simp),fun h=>by cases h⟩,⟨by omega,SV.s7 (by decide) hsc,⟨_,rfl,Conv.refl _⟩,.inr (by simp),fun h=>by cases h⟩,⟨by omega,trivial,⟨_,rfl,Conv.refl _⟩,.inl rfl,fun _=>by simp⟩,⟨by omega,trivial,⟨_,rfl,Conv.refl _⟩,.inl rfl,fun _=>by simp⟩,⟨by omega,qN _ _,⟨_,rfl,Conv.refl _⟩,.inr (by simp),fun h=>by cases h⟩,trivial⟩
    (fun i hi=>by simp at hi;rcases hi with rfl|rfl|rfl|rfl|rfl<;>exact⟨by omega,_,rfl⟩) (.tup [])
    [(30,.pin plp),(27,.kmap true true (qH S rs pl m)),(28,.obj (.mapIter (some b) (qH S rs pl m).length (ks++[ix]).toArray (qH S rs pl m).length)),(29,.pin [(27,b,0,hh),(28,b2,0,hh2)]),(24,.cells [.ptr 0 0] 64),(25,.cells [ii (rdL S pl r p rs[r.toNat].hi 1 x).1] 3),(26,.cells [ii r,ii p] 175),(0,.cells (qJ tk inp rg (.mp 7)) 96),(2,.rwin 4 S.length (S.flatMap Syn.vals)),(4,.rwin 10 rs.length (rs.flatMap Rul.vals)),(5,.rwin 1 pl.length (qD pl)),(6,.row 4 pl.length ((rdL S pl r p rs[r.toNat].hi 1 x).2.flatMap Mrk.cells) 84),(7,.kwin true tot)] 42 rfl rfl (by repeat first|exact trivial|refine⟨.inr ⟨24,_,rfl,rfl,rfl,rfl⟩,?_⟩|refine⟨.inr ⟨25,_,rfl,rfl,rfl,rfl⟩,?_⟩|refine⟨.inr ⟨26,_,rfl,rfl,rfl,rfl⟩,?_⟩|refine⟨.inr ⟨0,_,rfl,rfl,hCC _ _ (by decide),rfl⟩,?_⟩|refine⟨.inr ⟨6,_,rfl,rfl,by simp only[SObj.ren];rw[qY (S:=fun _=>False) (fun i hi=>hi.elim) _ (qN _ _)],rfl⟩,?_⟩|refine⟨.inl ⟨rfl,by simp⟩,?_⟩) ?_
   refine Run.W2 hc ?_
   conv=>whnf
   exact Run.rC id 31 (fun _ _ _ _ h=>h) (T':=[(1,.ptr 24 0),(2,.ptr 26 0),(4,.ptr 25 0),(5,.fn 104 [.ptr 24 0,.ptr 25 0,.ptr 26 0]),(8,.ptr 28 0)]) (M':=[(30,.pin plp),(27,.kmap true true (qH S rs pl m)),(28,.obj (.mapIter (some b) (qH S rs pl m).length (ks++[ix]).toArray (qH S rs pl m).length)),(29,.pin [(27,b,0,hh),(28,b2,0,hh2)]),(24,.cells [.ptr 0 0] 64),(25,.cells [ii (rdL S pl r p rs[r.toNat].hi 1 x).1] 3),(26,.cells [ii r,ii p] 175),(0,.cells (qJ tk inp rg (.mp 7)) 96),(2,.rwin 4 S.length (S.flatMap Syn.vals)),(4,.rwin 10 rs.length (rs.flatMap Rul.vals)),(5,.rwin 1 pl.length (qD pl)),(6,.row 4 pl.length ((rdL S pl r p rs[r.toNat].hi 1 x).2.flatMap Mrk.cells) 84),(7,.kwin true tot)])
    ⟨⟨rfl,ltb rfl⟩,⟨rfl,ltb rfl⟩,⟨rfl,ltb rfl⟩,⟨rfl,ltb rfl,(show 25<31 by decide),ltb rfl,trivial⟩,⟨rfl,ltb rfl⟩,trivial⟩
    ⟨⟨by rw[qC];rfl,by omega,pnx hcov rfl⟩,⟨by rw[qC];rfl,by omega,trivial⟩,⟨by rw[qC];rfl,by omega,trivial⟩,⟨by rw[qC];rfl,by omega,by simp[SObj.sc]⟩,⟨by rw[qC];rfl,by omega,ltb rfl,trivial⟩,⟨by rw[qC];rfl,by omega,trivial,trivial⟩,⟨by rw[qC];rfl,by omega,trivial,trivial,trivial⟩,⟨by rw[qC];rfl,by omega,SV.s7 (by decide) hsc⟩,⟨rfl,by omega,Os.h _⟩,⟨rfl,by omega,Os.h _⟩,⟨rfl,by omega,Os.h _⟩,⟨by rw[qC];rfl,by omega,Os.h _⟩,⟨by rw[qC];rfl,by omega,trivial⟩,trivial⟩ (fun q hq=>⟨rfl,by have:=hLB q hq;omega⟩) ih2
  ·refine Run.W2 hc ?_
   conv=>whnf
   have hq':=of_decide_eq_false hq
   cases hb1:decide (0<(jQ qUp (rdL S pl r p rs[r.toNat].hi 1) (W (kiv tot (Key.p r p)-sv),mm).1.toNat (W (kiv tot (Key.p r p)-sv),mm)).1)
   case true=>exact absurd (of_decide_eq_true hb1) hq'
   conv=>whnf
   generalize huu:(jQ qUp (rdL S pl r p rs[r.toNat].hi 1) (W (kiv tot (Key.p r p)-sv),mm).1.toNat (W (kiv tot (Key.p r p)-sv),mm))=uu at hokD hsn hx
   refine Run.rC id 31 (fun _ _ _ _ h=>h) (T':=[(1,.ptr 24 0),(2,.ptr 26 0),(4,.ptr 25 0),(5,.fn 104 [.ptr 24 0,.ptr 25 0,.ptr 26 0]),(8,.ptr 28 0)]) (M':=[(30,.pin plp),(27,.kmap true true (qH S rs pl m)),(28,.obj (.mapIter (some b) (qH S rs pl m).length (ks++[ix]).toArray (qH S rs pl m).length)),(29,.pin [(27,b,0,hh),(28,b2,0,hh2)]),(24,.cells [.ptr 0 0] 64),(25,.cells [ii uu.1] 3),(26,.cells [ii r,ii p] 175),(0,.cells (qJ tk inp rg (.mp 7)) 96),(2,.rwin 4 S.length (S.flatMap Syn.vals)),(4,.rwin 10 rs.length (rs.flatMap Rul.vals)),(5,.rwin 1 pl.length (qD pl)),(6,.row 4 pl.length (uu.2.flatMap Mrk.cells) 84),(7,.kwin true tot)])
    ⟨⟨rfl,ltb rfl⟩,⟨rfl,ltb rfl⟩,⟨rfl,ltb rfl⟩,⟨rfl,ltb rfl,(show 25<31 by decide),ltb rfl,trivial⟩,⟨rfl,ltb rfl⟩,trivial⟩
    ⟨⟨by rw[qC];rfl,by omega,pnx hcov rfl⟩,⟨by rw[qC];rfl,by omega,trivial⟩,⟨by rw[qC];rfl,by omega,trivial⟩,⟨by rw[qC];rfl,by omega,by simp[SObj.sc]⟩,⟨by rw[qC];rfl,by omega,ltb rfl,trivial⟩,⟨by rw[qC];rfl,by omega,trivial,trivial⟩,⟨by rw[qC];rfl,by omega,trivial,trivial,trivial⟩,⟨by rw[qC];rfl,by omega,SV.s7 (by decide) hsc⟩,⟨rfl,by omega,Os.h _⟩,⟨rfl,by omega,Os.h _⟩,⟨rfl,by omega,Os.h _⟩,⟨by rw[qC];rfl,by omega,Os.h _⟩,⟨by rw[qC];rfl,by omega,trivial⟩,trivial⟩ (fun q hq=>⟨rfl,by have:=hLB q hq;omega⟩) ?_
   refine Run.whileN (M:=fun x=>[(30,.pin plp),(27,.kmap true true (qH S rs pl m)),(28,.obj (.mapIter (some b) (qH S rs pl m).length (ks++[ix]).toArray (qH S rs pl m).length)),(29,.pin [(27,b,0,hh),(28,b2,0,hh2)]),(24,.cells [.ptr 0 0] 64),(25,.cells [ii x.1] 3),(26,.cells [ii r,ii p] 175),(0,.cells (qJ tk inp rg (.mp 7)) 96),(2,.rwin 4 S.length (S.flatMap Syn.vals)),(4,.rwin 10 rs.length (rs.flatMap Rul.vals)),(5,.rwin 1 pl.length (qD pl)),(6,.row 4 pl.length (x.2.flatMap Mrk.cells) 84),(7,.kwin true tot)]) qDn (rdL S pl r p rs[r.toNat].lo (-1)) (fun x=>x.2.length=S.length) _ uu hx (fun x hx=>(rdL_len _ _ _ _ _ _ x).trans hx) hokD (fun x hx hq ih2=> ?_) (fun hx hq=> ?_)
   ·refine Run.W2 hc ?_
    conv=>whnf
    have hq':x.1<0:=of_decide_eq_true hq
    cases hb1:decide (x.1<0)
    case false=>exact absurd hq' (of_decide_eq_false hb1)
    conv=>whnf
    refine Run.draw (hc w L0 none nofun) 10 ?_
    rw[show qG 0 10=qG 0 8++qG 8 2 from rfl]
    simp only[qV]
    conv=>whnf
    refine⟨by omega,?_⟩
    conv=>whnf
    rw[q9 (f:=Rul.vals) (l:=rs) (c:=.int .i64 rs[r.toNat].lo) r.toNat 7 rfl rfl rfl rfl Rul.vlen (by rw[j9]) hkr (by decide) rfl]
    conv=>whnf
    refine⟨by kernel_rfl,?_⟩
    refine Run.rF (vs:=[ii rs[r.toNat].lo,ii (-1)]) (caps:=[.ptr 24 0,.ptr 25 0,.ptr 26 0]) (round_spec tk inp rg (.mp 7) S pl r p x.1 rs[r.toNat].lo (-1) x.2 hsc h1 hx hS) (ent _ _ Try.func104 (by kernel_rfl) rfl) rfl rfl rfl rfl rfl rfl rfl (by decide) (by decide)
     ⟨⟨by omega,⟨ltb rfl,trivial⟩,⟨_,rfl,Conv.refl _⟩,.inr (by simp),fun h=>by cases h⟩,⟨by omega,⟨trivial,trivial⟩,⟨_,rfl,Conv.refl _⟩,.inr (by simp),fun h=>by cases h⟩,⟨by omega,⟨trivial,trivial,trivial⟩,⟨_,rfl,Conv.refl _⟩,.inr (by simp),fun h=>by cases h⟩,⟨by omega,SV.s7 (by decide) hsc,⟨_,rfl,Conv.refl _⟩,.inr (by simp),fun h=>by cases h⟩,⟨by omega,trivial,⟨_,rfl,Conv.refl _⟩,.inl rfl,fun _=>by simp⟩,⟨by omega,trivial,⟨_,rfl,Conv.refl _⟩,.inl rfl,fun _=>by simp⟩,⟨by omega,qN _ _,⟨_,rfl,Conv.refl _⟩,.inr (by simp),fun h=>by cases h⟩,trivial⟩
     (fun i hi=>by simp at hi;rcases hi with rfl|rfl|rfl|rfl|rfl<;>exact⟨by omega,_,rfl⟩) (.tup [])
     [(30,.pin plp),(27,.kmap true true (qH S rs pl m)),(28,.obj (.mapIter (some b) (qH S rs pl m).length (ks++[ix]).toArray (qH S rs pl m).length)),(29,.pin [(27,b,0,hh),(28,b2,0,hh2)]),(24,.cells [.ptr 0 0] 64),(25,.cells [ii (rdL S pl r p rs[r.toNat].lo (-1) x).1] 3),(26,.cells [ii r,ii p] 175),(0,.cells (qJ tk inp rg (.mp 7)) 96),(2,.rwin 4 S.length (S.flatMap Syn.vals)),(4,.rwin 10 rs.length (rs.flatMap Rul.vals)),(5,.rwin 1 pl.length (qD pl)),(6,.row 4 pl.length ((rdL S pl r p rs[r.toNat].lo (-1) x).2.flatMap Mrk.cells) 84),(7,.kwin true tot)] 42 rfl rfl (by repeat first|exact trivial|refine⟨.inr ⟨24,_,rfl,rfl,rfl,rfl⟩,?_⟩|refine⟨.inr ⟨25,_,rfl,rfl,rfl,rfl⟩,?_⟩|refine⟨.inr ⟨26,_,rfl,rfl,rfl,rfl⟩,?_⟩|refine⟨.inr ⟨0,_,rfl,rfl,hCC _ _ (by decide),rfl⟩,?_⟩|refine⟨.inr ⟨6,_,rfl,rfl,by simp only[SObj.ren];rw[qY (S:=fun _=>False) (fun i hi=>hi.elim) _ (qN _ _)],rfl⟩,?_⟩|refine⟨.inl ⟨rfl,by simp⟩,?_⟩) ?_
    refine Run.W2 hc ?_
    conv=>whnf
    exact Run.rC id 31 (fun _ _ _ _ h=>h) (T':=[(1,.ptr 24 0),(2,.ptr 26 0),(4,.ptr 25 0),(5,.fn 104 [.ptr 24 0,.ptr 25 0,.ptr 26 0]),(8,.ptr 28 0)]) (M':=[(30,.pin plp),(27,.kmap true true (qH S rs pl m)),(28,.obj (.mapIter (some b) (qH S rs pl m).length (ks++[ix]).toArray (qH S rs pl m).length)),(29,.pin [(27,b,0,hh),(28,b2,0,hh2)]),(24,.cells [.ptr 0 0] 64),(25,.cells [ii (rdL S pl r p rs[r.toNat].lo (-1) x).1] 3),(26,.cells [ii r,ii p] 175),(0,.cells (qJ tk inp rg (.mp 7)) 96),(2,.rwin 4 S.length (S.flatMap Syn.vals)),(4,.rwin 10 rs.length (rs.flatMap Rul.vals)),(5,.rwin 1 pl.length (qD pl)),(6,.row 4 pl.length ((rdL S pl r p rs[r.toNat].lo (-1) x).2.flatMap Mrk.cells) 84),(7,.kwin true tot)])
     ⟨⟨rfl,ltb rfl⟩,⟨rfl,ltb rfl⟩,⟨rfl,ltb rfl⟩,⟨rfl,ltb rfl,(show 25<31 by decide),ltb rfl,trivial⟩,⟨rfl,ltb rfl⟩,trivial⟩
     ⟨⟨by rw[qC];rfl,by omega,pnx hcov rfl⟩,⟨by rw[qC];rfl,by omega,trivial⟩,⟨by rw[qC];rfl,by omega,trivial⟩,⟨by rw[qC];rfl,by omega,by simp[SObj.sc]⟩,⟨by rw[qC];rfl,by omega,ltb rfl,trivial⟩,⟨by rw[qC];rfl,by omega,trivial,trivial⟩,⟨by rw[qC];rfl,by omega,trivial,trivial,trivial⟩,⟨by rw[qC];rfl,by omega,SV.s7 (by decide) hsc⟩,⟨rfl,by omega,Os.h _⟩,⟨rfl,by omega,Os.h _⟩,⟨rfl,by omega,Os.h _⟩,⟨by rw[qC];rfl,by omega,Os.h _⟩,⟨by rw[qC];rfl,by omega,trivial⟩,trivial⟩ (fun q hq=>⟨rfl,by have:=hLB q hq;omega⟩) ih2
   ·refine Run.W2 hc ?_
    conv=>whnf
    have hq':=of_decide_eq_false hq
    cases hb1:decide ((jQ qDn (rdL S pl r p rs[r.toNat].lo (-1)) (-uu.1).toNat uu).1<0)
    case true=>exact absurd (of_decide_eq_true hb1) hq'
    conv=>whnf
    have hsn':(jQ qDn (rdL S pl r p rs[r.toNat].lo (-1)) (-uu.1).toNat uu).2=jZ S rs pl tot (qH S rs pl m) m (ks++[ix]):=hsn.symm
    exact Run.rC (rq [(25,24),(26,27),(27,28),(28,29),(24,30)]) 29 (by decide) (T':=[(1,.ptr 25 0),(8,.ptr 27 0)]) (M':=[(25,.cells [.ptr 0 0] 64),(26,.kmap true true (qH S rs pl m)),(27,.obj (.mapIter (some b) (qH S rs pl m).length ((ks++[ix])).toArray (qH S rs pl m).length)),(28,.pin [(26,b,0,hh),(27,b2,0,hh2)]),(24,.pin plp),(0,.cells (qJ tk inp rg (.mp 7)) 96),(2,.rwin 4 S.length (S.flatMap Syn.vals)),(4,.rwin 10 rs.length (rs.flatMap Rul.vals)),(5,.rwin 1 pl.length (qD pl)),(6,.row 4 pl.length ((jZ S rs pl tot (qH S rs pl m) m (ks++[ix])).flatMap Mrk.cells) 84),(7,.kwin true tot)])
     ⟨⟨rfl,ltb rfl⟩,⟨rfl,ltb rfl⟩,trivial⟩
     ⟨⟨rfl,by omega,ltb rfl,trivial⟩,⟨rfl,by omega,Os.h _⟩,⟨rfl,by omega,Os.h _⟩,⟨rfl,by omega,by simp[SObj.sc]⟩,⟨congrArg some (jK hcov fun i hi=>zG (vU (by decide) hi)).symm,by omega,pnx hcov rfl⟩,⟨congrArg some (hlr _ (fun i hi=>vU (by decide) hi)),by omega,SV.s7 (by decide) hsc⟩,⟨rfl,by omega,Os.h _⟩,⟨rfl,by omega,Os.h _⟩,⟨rfl,by omega,Os.h _⟩,⟨by rw[←hsn'];exact congrArg some (by simp only[SObj.ren];rw[qY (S:=fun _=>False) (fun i hi=>hi.elim) _ (qN _ _)]),by omega,Os.h _⟩,⟨rfl,by omega,Os.h _⟩,trivial⟩ (fun q hq=>⟨zG (vU (by decide) (hLB q hq)),by have:=hLB q hq;omega⟩) (ih ix hixl hixk)
 ·have hall':jZ S rs pl tot (qH S rs pl m) m ks=m':=hm' ks hnd hlt (fun k hk=>by simpa using hall k hk)
  refine Run.W2 hc ?_
  conv=>whnf
  refine SpecR.intro 25 (by decide) hLB (by decide) hcov rfl rfl trivial ⟨⟨congrArg some (hCC _ _ (by decide)),by omega,hsc⟩,⟨rfl,by omega,Os.h _⟩,⟨rfl,by omega,Os.h _⟩,⟨rfl,by omega,Os.h _⟩,⟨?_,by omega,Os.h _⟩,⟨rfl,by omega,Os.h _⟩,trivial⟩
  rw[←hall']
  exact congrArg some (by simp only[SObj.ren];rw[qY (S:=fun _=>False) (fun i hi=>hi.elim) _ (qN _ _)])
theorem _root_.Go.Sx.oren_fix {S:Nat→Prop}{r:Nat→Nat}(h :∀i,S i→r i=i){o:SObj}(ho:o.sc S):o.ren r=o:=by
 cases o with
 |cells cs t=>simp only[SObj.ren];rw[qY h cs ho]
 |row e n xs t=>simp only[SObj.ren];rw[qY h xs ho]
 |mid pre post cs t=>simp only[SObj.ren];rw[qY h cs ho]
 |pin l=>
  simp only[SObj.ren]
  congr 1
  have:l.map (fun p=>(r p.1,p.2))=l.map id:=List.map_congr_left fun p hp=>by simp[h _ (ho p hp)]
  rw[this,List.map_id]
 |_=>rfl
theorem sG (ρ:Env)(l:List Mrk):SV.concs ρ (l.flatMap Mrk.cells)=l.flatMap Mrk.vals:=by rw[uF,zN]
theorem BSpec.mark {g:FuncId}{args:List SV}{i k:Nat}{ms:List Mrk}(hi:i<ms.length)(hk:k=ms.length)(f:Mrk→Mrk)(A:Nat→Nat→List Value)(hA :∀ ρ:Env,ρ.o 6=0→SV.concs ρ args=A (ρ.s 6) (i*4))
  (hrun :∀b pre post t w,pre.length=i*4→xO b pre post ms[i] t w→Calls Try.prog g (A b pre.length).toArray w fun e w'=>e = .returned (.tuple #[])∧Mod w b w'∧xO b pre post (f ms[i]) t w') :
  BSpec Try.prog g args [(6,.row 4 k (ms.flatMap Mrk.cells) 84)] 7 [6] (.tup []) [(6,.row 4 k ((ms.set i (f ms[i])).flatMap Mrk.cells) 84)] 7:=by
 subst hk
 intro ρ w L' hW hL
 obtain⟨g1,g2,g3⟩:=hW.mem 6 _ rfl
 have g3':=g3
 obtain⟨h0,h1,h2⟩:=g3'
 rcases h2 with⟨_,h2⟩|⟨cap,sp,h3,h4,h5⟩
 ·omega
 rw[sG]at h5
 have hpl:((ms.take i).flatMap Mrk.vals).length=i*4:=by
  rw[j7 (e:=4) Mrk.vlen,List.length_take,Nat.min_eq_left (by omega)]
 have hsp :∀x:Mrk,((ms.set i x).flatMap Mrk.vals)++sp=(ms.take i).flatMap Mrk.vals++SV.concs zP x.cells++((ms.drop (i+1)).flatMap Mrk.vals++sp):=fun x=>by
  rw[set_flat hi];simp[Mrk.vals,Mrk.cells,SV.concs,SV.conc]
 have hat:xO (ρ.s 6) ((ms.take i).flatMap Mrk.vals) ((ms.drop (i+1)).flatMap Mrk.vals++sp) ms[i] 84 w:=by
  unfold xO
  rw[←hsp,List.set_getElem_self]
  exact h5
 have hc:=hrun _ _ _ _ w hpl hat
 rw[hpl,←hA ρ h0]at hc
 refine hc.mono fun e w' ⟨he,hm,hm'⟩=>⟨ρ,he,trivial,Env.agree.refl _ _,?_⟩
 have hocc:(SObj.row 4 ms.length (ms.flatMap Mrk.cells) 84).occ ρ 6:=by simp[SObj.occ,h3]
 have:=hW.modify (o':=.row 4 ms.length ((ms.set i (f ms[i])).flatMap Mrk.cells) 84) rfl hocc hm (qN _ _) ⟨h0,by rw[j7 (e:=4) Mrk.clen,List.length_set],.inr ⟨cap,sp,h3,h4,by
  rw[sG,hsp];exact hm'⟩⟩
 rw[←qX]at this
 exact this.less (r:=id) ⟨AllP.mem (l:=[(6,SObj.row 4 ms.length ((ms.set i (f ms[i])).flatMap Mrk.cells) 84)]) ⟨⟨by rw[qC];rfl,by omega,Os.h _⟩,trivial⟩,fun _ _ _ _ h=>h,fun p hp=>⟨rfl,(hW.lid p hp).1⟩⟩
theorem rul_v (ρ:Env)(r:Rul):(SV.agg (r.vals.map .v)).conc ρ=r.sv.conc zP:=rfl
theorem fade_spec (r:Rul){i k:Nat}{ms:List Mrk}(hi:i<ms.length)(hk:k=ms.length):BSpec Try.prog 48 [.ptr 6 (i*4),.agg (r.vals.map .v)] [(6,.row 4 k (ms.flatMap Mrk.cells) 84)] 7 [6] (.tup []) [(6,.row 4 k ((ms.set i (jV r ms[i])).flatMap Mrk.cells) 84)] 7:=
 BSpec.mark hi hk (jV r) (fun b off=>[.pointer (some ⟨b,off,none⟩),r.sv.conc zP]) (fun ρ h=>by simp only[SV.concs,rul_v];simp only[SV.conc,h,Nat.zero_add]) fun b pre post t w _ hb=>fade_run r _ b pre post t w hb
theorem pair_spec (r:Rul)(cg rw0:Int){i k:Nat}{ms:List Mrk}(hi:i<ms.length)(hk:k=ms.length):BSpec Try.prog 98 [.agg (r.vals.map .v),.ptr 6 (i*4),ii cg,ii rw0] [(6,.row 4 k (ms.flatMap Mrk.cells) 84)] 7 [6] (.tup []) [(6,.row 4 k ((ms.set i (pairM ms[i] cg)).flatMap Mrk.cells) 84)] 7:=
 BSpec.mark hi hk (fun m=>pairM m cg) (fun b off=>[r.sv.conc zP,.pointer (some ⟨b,off,none⟩),.int .i64 cg,.int .i64 rw0]) (fun ρ h=>by simp only[SV.concs,rul_v];simp only[SV.conc,h,Nat.zero_add]) fun b pre post t w _ hb=>pair_run r _ cg rw0 b pre post t w hb
theorem reward_spec (r:Rul)(cg rw0:Int){i k:Nat}{ms:List Mrk}(hi:i<ms.length)(hk:k=ms.length):BSpec Try.prog 99 [.agg (r.vals.map .v),.ptr 6 (i*4),ii cg,ii rw0] [(6,.row 4 k (ms.flatMap Mrk.cells) 84)] 7 [6] (.tup []) [(6,.row 4 k ((ms.set i (rewM ms[i] cg rw0)).flatMap Mrk.cells) 84)] 7:=
 BSpec.mark hi hk (fun m=>rewM m cg rw0) (fun b off=>[r.sv.conc zP,.pointer (some ⟨b,off,none⟩),.int .i64 cg,.int .i64 rw0]) (fun ρ h=>by simp only[SV.concs,rul_v];simp only[SV.conc,h,Nat.zero_add]) fun b pre post t w _ hb=>reward_run r _ cg rw0 b pre post t w hb
def mrkOf:List SV→Option Mrk
 | [.v (.int .i64 a),.v (.int .i64 b),.v (.int .i64 c),.v (.int .i64 d)]=>some ⟨a,b,c,d⟩
 |_=>none
theorem mrkOf_eq {l:List SV}{m:Mrk}(h:mrkOf l=some m):l=m.cells:=by
 unfold mrkOf at h
 split at h
 ·obtain rfl:=Option.some.inj h;rfl
 ·cases h
theorem mrk_conc {x:SV}{m:Mrk}(ρ:Env)(h:mrkOf x.cells=some m):x.conc ρ=m.sv.conc zP:=by
 have:=mrkOf_eq h
 cases x with
 |agg cs=>simp only[SV.cells]at this;subst this;rfl
 |v y=>
  cases y with
  |agg cs=>
   simp only[SV.cells]at this
   have h2:=congrArg (SV.concs ρ) this
   rw[zN]at h2
   have h3:m.sv.conc zP = .agg (SV.concs ρ m.cells).toArray:=rfl
   rw[h3,←h2]
   simp only[SV.conc,Array.toArray_toList]
  |_=>simp[SV.cells,Mrk.cells]at this
 |_=>simp[SV.cells,Mrk.cells]at this
def FChg_v (f:Rul→Mrk→Bool→Bool→Int):List SV→Option SV
 | [x,y,.v (.bool s),.v (.bool a)]=>match rulOf x.cells with
  |some r=>match mrkOf y.cells with
   |some m=>match decide (0≤r.shift)with
    |true=>some (ii (f r m s a))
    |false=>none
   |none=>none
  |none=>none
 |_=>none
abbrev FChg (f:Rul→Mrk→Bool→Bool→Int):Mem→List SV→Option (List Nat×SV):=yB (FChg_v f)
theorem change_pure:Pure Try.prog 49 (FChg chgM):=PureV.lift {
 ent:=ent _ _ Try.func49 (by kernel_rfl) rfl
 sc:=fun S args v hv _=>by
  unfold FChg_v at hv
  split at hv
  ·split at hv
   ·split at hv
    ·split at hv
     ·obtain rfl:=Option.some.inj hv;trivial
     ·cases hv
    ·cases hv
   ·cases hv
  ·cases hv
 run:=fun ρ args v w hv=>by
  unfold FChg_v at hv
  split at hv
  ·split at hv
   ·rename_i sp ar _ r hr
    split at hv
    ·rename_i m hm
     split at hv
     ·rename_i hs
      obtain rfl:=Option.some.inj hv
      have:=change_run r m sp ar (of_decide_eq_true hs) w
      simp only[SV.concs,rul_conc ρ hr,mrk_conc ρ hm]
      exact this
     ·cases hv
    ·cases hv
   ·cases hv
  ·cases hv }
def FKind_v:List SV→Option SV
 | [.v (.int .i64 k)]=>match decide (k=1)with
  |true=>some (.v fpair)
  |false=>match decide (k=2)with
   |true=>some (.v frew)
   |false=>none
 |_=>none
abbrev FKind:Mem→List SV→Option (List Nat×SV):=yB FKind_v
theorem kinds_pure:Pure Try.prog 77 FKind:=PureV.lift {
 ent:=ent _ _ Try.func77 (by kernel_rfl) rfl
 sc:=fun S args v hv _=>by
  unfold FKind_v at hv
  split at hv
  ·split at hv
   ·obtain rfl:=Option.some.inj hv;trivial
   ·split at hv
    ·obtain rfl:=Option.some.inj hv;trivial
    ·cases hv
  ·cases hv
 run:=fun ρ args v w hv=>by
  unfold FKind_v at hv
  split at hv
  ·split at hv
   ·rename_i h
    obtain rfl:=Option.some.inj hv
    have:=of_decide_eq_true h
    subst this
    exact kinds_1 w
   ·split at hv
    ·rename_i h
     obtain rfl:=Option.some.inj hv
     have:=of_decide_eq_true h
     subst this
     exact kinds_2 w
    ·cases hv
  ·cases hv }
def wY (vd:Prm→Ste→Int)(sS:Prm→Ste→Int→Ste)(sB:Prm→Ste→Int→Bool):List SV→Option SV
 | [x,y,.v (.int .i64 a)]=>match prmOf x.cells with
  |some p=>match steOf y.cells with
   |some s=>match decide (vd p s=0)with
    |true=>some (.tup [.agg [ii (sS p s a).v,ii (sS p s a).rest],.v (.bool (sB p s a)),ii 0])
    |false=>none
   |none=>none
  |none=>none
 |_=>none
abbrev vV (vd:Prm→Ste→Int)(sS:Prm→Ste→Int→Ste)(sB:Prm→Ste→Int→Bool):Mem→List SV→Option (List Nat×SV):=yB (wY vd sS sB)
theorem sD:Pure Try.prog 80 (vV vld jR yO):=PureV.lift {
 ent:=ent _ _ Try.func80 (by kernel_rfl) rfl
 sc:=fun S args v hv _=>by
  unfold wY at hv
  split at hv
  ·split at hv
   ·split at hv
    ·split at hv
     ·obtain rfl:=Option.some.inj hv;simp[SV.sc,SV.scs]
     ·cases hv
    ·cases hv
   ·cases hv
  ·cases hv
 run:=fun ρ args v w hv=>by
  unfold wY at hv
  split at hv
  ·split at hv
   ·rename_i ax _ p hp
    split at hv
    ·rename_i s hs
     split at hv
     ·rename_i hd
      obtain rfl:=Option.some.inj hv
      have:=Tick_run p s ax w
      simp only[tickV,if_pos (of_decide_eq_true hd)]at this
      simp only[SV.concs,gT ρ hp,ste_conc ρ hs]
      exact this
     ·cases hv
    ·cases hv
   ·cases hv
  ·cases hv }
theorem uP {tab:Tab}{pf:PF}{T:Tm}{M:Mem}{n:Nat}{f:Operand}{args:Array Operand}{ts:Array TypeId}{fv:SV}{g:FuncId}{caps vs:List SV}{F:Mem→List SV→Option (List Nat×SV)}{bs:List Nat}{v:SV}(hf:ev T f=some fv)(hfv:zW fv=some (g,caps))(hg:Sx.look pf g=some F)(hvs:evs T args.toList=some vs)(hF:F M (vs++caps)=some (bs,v))(hgb:Nat.blt g 1000=true:=by rfl) :
  opF tab pf T M n (.call { callee:=.value f,args:=args,argTypes:=ts })=some (.call g (vs++caps) bs v):=by
 simp only[opF,wE,hf,hfv,hgb,hg,hvs,hF]
theorem opF_callN {tab:Tab}{pf:PF}{T:Tm}{M:Mem}{n:Nat}{f:Operand}{args:Array Operand}{ts:Array TypeId}{fv:SV}{g:FuncId}{caps:List SV}(hf:ev T f=some fv)(hfv:zW fv=some (g,caps))(hg:Sx.look pf g=none)(hg2:Sx.look pf (g+1000)=none) :
  opF tab pf T M n (.call { callee:=.value f,args:=args,argTypes:=ts })=none:=by
 simp only[opF,wE,hf,hfv]
 split
 ·simp only[hg,gA,hg2]
  cases caps<;>rfl
 ·rfl
theorem FTick_eq (vd:Prm→Ste→Int)(sS:Prm→Ste→Int→Ste)(sB:Prm→Ste→Int→Bool)(M:Mem)(p:Prm)(s:Ste)(a:Int)(h:vd p s=0):vV vd sS sB M [.agg p.cells,.agg s.cells,ii a]=some ([],.tup [.agg [ii (sS p s a).v,ii (sS p s a).rest],.v (.bool (sB p s a)),ii 0]):=by
 show yB (wY vd sS sB) M _=_
 have e:wY vd sS sB [.agg p.cells,.agg s.cells,ii a]=some (.tup [.agg [ii (sS p s a).v,ii (sS p s a).rest],.v (.bool (sB p s a)),ii 0]):=by
  show(match decide (vd p s=0)with|true=>_|false=>_)=_
  rw[decide_eq_true h]
 simp only[yB,e]
theorem FChg_eq (ch:Rul→Mrk→Bool→Bool→Int)(M:Mem)(r:Rul)(m:Mrk)(s a:Bool)(h:0≤r.shift):FChg ch M [.agg r.cells,.agg m.cells,.v (.bool s),.v (.bool a)]=some ([],ii (ch r m s a)):=by
 show yB (FChg_v ch) M _=_
 have e:FChg_v ch [.agg r.cells,.agg m.cells,.v (.bool s),.v (.bool a)]=some (ii (ch r m s a)):=by
  show(match decide (0≤r.shift)with|true=>_|false=>_)=_
  rw[decide_eq_true h]
 simp only[yB,e]
def kindG (k:Int):FuncId:=if k=1 then 98 else 99
theorem FKind_eq (M:Mem)(k:Int)(h:k=1∨k=2):FKind M [ii k]=some ([],.v (.func (.func (kindG k)) #[] #[])):=by
 rcases h with rfl|rfl<;>rfl
theorem kindG_ent (k:Int):zU Try.prog (kindG k):=by
 unfold kindG
 split
 ·exact ent _ _ Try.func98 (by kernel_rfl) rfl
 ·exact ent _ _ Try.func99 (by kernel_rfl) rfl
theorem kind_spec (r:Rul)(cg rw0:Int){i k:Nat}{ms:List Mrk}(hi:i<ms.length)(hk:k=ms.length):BSpec Try.prog (kindG r.kind) [.agg (r.vals.map .v),.ptr 6 (i*4),ii cg,ii rw0] [(6,.row 4 k (ms.flatMap Mrk.cells) 84)] 7 [6] (.tup []) [(6,.row 4 k ((ms.set i (if r.kind=1 then pairM ms[i] cg else rewM ms[i] cg rw0)).flatMap Mrk.cells) 84)] 7:=by
 unfold kindG
 by_cases h:r.kind=1
 ·simp only[if_pos h];exact pair_spec r cg rw0 hi hk
 ·simp only[if_neg h];exact reward_spec r cg rw0 hi hk
abbrev pfStep (ch:Rul→Mrk→Bool→Bool→Int)(vd:Prm→Ste→Int)(sS:Prm→Ste→Int→Ste)(sB:Prm→Ste→Int→Bool):PF:=[(49,FChg ch),(77,FKind),(82,F3 fun n lo hi=>.int .i64 (max lo (min hi n))),(80,vV vd sS sB)]
theorem pfStep_kind (ch:Rul→Mrk→Bool→Bool→Int)(vd:Prm→Ste→Int)(sS:Prm→Ste→Int→Ste)(sB:Prm→Ste→Int→Bool)(k:Int):Sx.look (pfStep ch vd sS sB) (kindG k)=none:=by
 unfold kindG
 split<;>rfl
theorem pfStep_kind2 (ch:Rul→Mrk→Bool→Bool→Int)(vd:Prm→Ste→Int)(sS:Prm→Ste→Int→Ste)(sB:Prm→Ste→Int→Bool)(k:Int):Sx.look (pfStep ch vd sS sB) (kindG k+1000)=none:=by
 unfold kindG
 split<;>rfl
theorem pfStep_ok:PF.oks Try.prog (pfStep chgM vld jR yO):=⟨change_pure,kinds_pure,tE,sD,trivial⟩
end Go.Proofs.Ytnnlpdgnlccbjaa
namespace Go.Proofs.Ytnnlpdgnlccbjaa
open Go.Sx
theorem ofx {r:Nat→Nat}{o:SObj}(ho:o.sc fun _=>False):o.ren r=o:=oren_fix (S:=fun _=>False) (fun _ hi=>hi.elim) ho
set_option maxRecDepth 100000
set_option maxHeartbeats 8000000
def qA (l:List Int):List (Key×Value):=l.map fun i=>(.i i,.bool true)
def addS (l:List Int)(a:Int):List Int:=if a∈l then l else l++[a]
theorem t7 :∀(l:List Int) (f:Int),(zM (qA l) (.i f)).getD (.bool false) = .bool (decide (f∈l))
 | [],f=>rfl
 |a::l,f=>by
  show(zM ((.i a,.bool true)::qA l) (.i f)).getD (.bool false)=_
  unfold zM
  by_cases h:a=f
  ·subst h;simp
  ·rw[if_neg (fun e=>h (Key.i.inj e).symm),t7 l f]
   simp[Ne.symm h]
theorem t8 :∀(l:List Int) (a:Int),zK (qA l) (.i a) (.bool true)=qA (addS l a)
 | [],a=>rfl
 |b::l,a=>by
  show zK ((.i b,.bool true)::qA l) (.i a) (.bool true)=_
  unfold zK addS
  by_cases h:b=a
  ·subst h;rw[if_pos rfl,if_pos (List.mem_cons_self ..)];rfl
  ·rw[if_neg (fun e=>h (Key.i.inj e).symm),t8 l a]
   unfold addS
   by_cases hm:a∈l
   ·rw[if_pos hm,if_pos (List.mem_cons_of_mem _ hm)];rfl
   ·rw[if_neg hm,if_neg (by simp[Ne.symm h,hm])];rfl
def zE (t:Int):Nat:=(t.tmod 16).toNat
theorem yI {t:Int}:zE t<16:=by unfold zE;have:=Int.tmod_lt_of_pos t (show(0:Int)<16 by decide);omega
theorem gZ {t:Int}(h:0≤t):t.tmod 16=(zE t:Int):=by unfold zE;have:=Int.tmod_nonneg 16 h;omega
theorem lt16 {k:Nat}(h:k<16):k=0∨k=1∨k=2∨k=3∨k=4∨k=5∨k=6∨k=7∨k=8∨k=9∨k=10∨k=11∨k=12∨k=13∨k=14∨k=15:=by omega
theorem tY {tab:Tab}{pf:PF}{T:Tm}{M:Mem}{n:Nat}{t:TypeId}{x:Operand}{ti:TI}{i off:Nat}{te:TypeId}{cs:List SV}{c:SV}(ht:Sx.look tab t=some ti)(hx:ev T x=some (.ptr i off))(hM:M i=some (.cells cs te))(hag:ti.sh.isAgg=false)(hg:get cs off=some c) :
  opF tab pf T M n (.load t x)=some (.val none c):=by
 simp only[opF,xR,ht,hx,hM,hag,SObj.list,hg]
theorem opF_lookupW {tab:Tab}{pf:PF}{T:Tm}{M:Mem}{n:Nat}{t kt et:TypeId}{x y:Operand}{tk:TI}{z:Value}{kv:SV}{k:Key}{j:Nat}{pk:Bool}{l:List (Key×Value)}(hki:kinfo tab t=some (kt,tk,et,z))(hx:ev T x=some (.mp j))(hy:ev T y=some kv)(hk:keyS tk kv=some k)(hj:M j=some (.kwin pk l))(hpk:(k.pair==pk)=true) :
  opF tab pf T M n (.lookup t x y false)=some (.val none (.v ((zM l k).getD z))):=by
 simp only[opF,xM,hki,hx,hy,hk,hj,hpk,kO]
def prm0:Prm:=⟨0,0,0,0,0,0,0,0⟩
def jC:Ste:=⟨0,0⟩
def arrB (sm:Nat→List Int)(tick:Int)(s:Syn):Bool:=decide (s.d≤tick)&&decide (s.fr∈sm (zE (tick-s.d)))
def aStep (sm:Nat→List Int)(tick:Int)(S:List Syn)(m:List Mrk)(x:List Bool×List Int)(i:Nat):List Bool×List Int:=
 if arrB sm tick (S.getD i zC)=true then(x.1.set i true,x.2.set (S.getD i zC).to.toNat (W (x.2.getD (S.getD i zC).to.toNat 0+(m.getD i qW).w)))else x
def aY (sm:Nat→List Int)(tick:Int)(S:List Syn)(m:List Mrk)(N:Nat)(j:Nat):List Bool×List Int:=(List.range j).foldl (aStep sm tick S m) (List.replicate S.length false,List.replicate N 0)
def aL (sm:Nat→List Int)(tick:Int)(S:List Syn)(m:List Mrk)(N:Nat):List Bool×List Int:=aY sm tick S m N S.length
theorem gU {α : Type}(f : α → Nat → α)(a : α)(j:Nat):(List.range (j+1)).foldl f a=f ((List.range j).foldl f a) j:=by rw[List.range_succ,List.foldl_append];rfl
theorem aY_succ (sm:Nat→List Int)(tick:Int)(S:List Syn)(m:List Mrk)(N j:Nat):aY sm tick S m N (j+1)=aStep sm tick S m (aY sm tick S m N j) j:=gU ..
theorem aY_len (sm:Nat→List Int)(tick:Int)(S:List Syn)(m:List Mrk)(N:Nat) :∀j,(aY sm tick S m N j).1.length=S.length∧(aY sm tick S m N j).2.length=N
 | 0=>by simp[aY]
 |j+1=>by
  rw[aY_succ]
  have:=aY_len sm tick S m N j
  unfold aStep
  split
  ·simp[this]
  ·exact this
def nStep (N:List Prm)(sums:List Int)(x:List Ste×List Int×List Int)(i:Nat):List Ste×List Int×List Int:=
 let p:=N.getD i prm0;let s:=x.1.getD i jC;let a:=sums.getD i 0
 (x.1.set i (jR p s a),if yO p s a=true then(x.2.1++[(i:Int)],addS x.2.2 i)else x.2)
def nY (N:List Prm)(sums:List Int)(st:List Ste)(j:Nat):List Ste×List Int×List Int:=(List.range j).foldl (nStep N sums) (st,[],[])
def nL (N:List Prm)(sums:List Int)(st:List Ste):List Ste×List Int×List Int:=nY N sums st N.length
theorem vQ (N:List Prm)(sums:List Int)(st:List Ste)(j:Nat):nY N sums st (j+1)=nStep N sums (nY N sums st j) j:=gU ..
theorem uO (N:List Prm)(sums:List Int)(st:List Ste) :∀j,(nY N sums st j).1.length=st.length
 | 0=>rfl
 |j+1=>by
  rw[vQ]
  have:=uO N sums st j
  simp[nStep,this]
theorem nY_ge (N:List Prm)(sums:List Int)(st:List Ste)(k:Nat) :∀j,j≤k→(nY N sums st j).1[k]? = st[k]?
 | 0,_=>rfl
 |j+1,h=>by
  rw[vQ]
  simp only[nStep]
  rw[List.getElem?_set_ne (by omega)]
  exact nY_ge N sums st k j (by omega)
theorem wB (N:List Prm)(sums:List Int)(st:List Ste) :∀j,(nY N sums st j).2.1.length≤j
 | 0=>Nat.le_refl _
 |j+1=>by
  rw[vQ]
  have:=wB N sums st j
  simp only[nStep]
  split
  ·simp;omega
  ·omega
def pMark (r:Rul)(spike arrived:Bool)(rw0:Int)(m0:Mrk):Mrk:=
 let m1:=jV r m0
 let c:=chgM r m1 spike arrived
 let m2:=if r.kind=1 then pairM m1 c else rewM m1 c rw0
 let m3:Mrk:={ m2 with w:=max r.lo (min r.hi m2.w) }
 let m4:Mrk:=if arrived=true then { m3 with x:=min 65535 (W (m3.x+r.gain)) }else m3
 if spike=true then { m4 with y:=min 65535 (W (m4.y+r.gain)) }else m4
def finM (r:Rul)(spike arrived:Bool)(m2:Mrk):Mrk:=
 let m3:Mrk:={ m2 with w:=max r.lo (min r.hi m2.w) }
 let m4:Mrk:=if arrived=true then { m3 with x:=min 65535 (W (m3.x+r.gain)) }else m3
 if spike=true then { m4 with y:=min 65535 (W (m4.y+r.gain)) }else m4
theorem gQ {r:Rul}{spike arrived:Bool}{rw0:Int}{m0 m1 m2:Mrk}{c:Int}(h1:jV r m0=m1)(h2:chgM r m1 spike arrived=c)(h3:(if r.kind=1 then pairM m1 c else rewM m1 c rw0)=m2):pMark r spike arrived rw0 m0=finM r spike arrived m2:=by
 subst h1 h2 h3;rfl
def pStep (S:List Syn)(rs:List Rul)(pl:List Int)(arr:List Bool)(sent rw0:List Int)(m:List Mrk)(i:Nat):List Mrk:=
 m.set i (pMark (rs.getD (pl.getD i (-1)).toNat jB) (decide ((S.getD i zC).to∈sent)) (arr.getD i false) (rw0.getD (pl.getD i (-1)).toNat 0) (m.getD i qW))
def pY (S:List Syn)(rs:List Rul)(pl:List Int)(arr:List Bool)(sent rw0:List Int)(m:List Mrk)(j:Nat):List Mrk:=((zD pl).take j).foldl (pStep S rs pl arr sent rw0) m
def pL (S:List Syn)(rs:List Rul)(pl:List Int)(arr:List Bool)(sent rw0:List Int)(m:List Mrk):List Mrk:=(zD pl).foldl (pStep S rs pl arr sent rw0) m
theorem pY_succ (S:List Syn)(rs:List Rul)(pl:List Int)(arr:List Bool)(sent rw0:List Int)(m:List Mrk){j i:Nat}(h:(zD pl)[j]? = some i):pY S rs pl arr sent rw0 m (j+1)=pStep S rs pl arr sent rw0 (pY S rs pl arr sent rw0 m j) i:=by
 have hj:=(List.getElem?_eq_some_iff.1 h).1
 have hv:=(List.getElem?_eq_some_iff.1 h).2
 unfold pY
 rw[←List.take_append_getElem hj,List.foldl_append,hv];rfl
theorem wL (S:List Syn)(rs:List Rul)(pl:List Int)(arr:List Bool)(sent rw0:List Int) :∀(l:List Nat) (m:List Mrk),(l.foldl (pStep S rs pl arr sent rw0) m).length=m.length
 | [],_=>rfl
 |a::l,m=>by rw[List.foldl_cons,wL S rs pl arr sent rw0 l];simp[pStep]
def x9 (sent inputs:List Int):List Int:=inputs.foldl (fun l k=>addS l (W (-1-k))) sent
def sendY (sent inputs:List Int)(j:Nat):List Int:=x9 sent (inputs.take j)
theorem sendY_succ (sent inputs:List Int){j:Nat}(h:j<inputs.length):sendY sent inputs (j+1)=addS (sendY sent inputs j) (W (-1-inputs[j])):=by
 unfold sendY x9
 rw[←List.take_append_getElem h,List.foldl_append];rfl
theorem opF_storeC {tab:Tab}{pf:PF}{T:Tm}{M:Mem}{n:Nat}{t:TypeId}{x y:Operand}{ti:TI}{i off:Nat}{te:TypeId}{cs:List SV}{v:SV}(ht:Sx.look tab t=some ti)(hx:ev T x=some (.ptr i off))(hy:ev T y=some v)(hM:M i=some (.cells cs te))(hsz:ti.size=1)(hv:v.cells=[v])(hone:v.one=true)(cs':List SV)(hg:jL cs off [v]=some cs') :
  opF tab pf T M n (.store t x y)=some (.wr i (.cells cs' te)):=by
 simp only[opF,vT,ht,hx,hy,hM,SObj.list,hv,hsz,List.length_singleton,show Nat.beq 1 1=true from rfl,xP,hone,hg,SObj.put]
theorem zA {B:Nat} :∀{l:List (Nat×Nat)} {i:Nat},l.all (fun p=>Nat.ble B p.1)=true→i<B→Sx.look l i=none
 | [],_,_,_=>rfl
 |(a,b)::l,i,h,hi=>by
  simp only[List.all_cons,Bool.and_eq_true]at h
  have:=Nat.le_of_ble_eq_true h.1
  rw[qP,if_neg (by omega)]
  exact zA h.2 hi
theorem lcells_ren {r:Nat→Nat}(h :∀i,i<24→r i=i)(t inp:Int)(k a:Nat):SV.rens r (qJ (ii t) inp (fun j=>.mp (if j=k then a else 8+j)) (.mp 7))=qJ (ii t) inp (fun j=>.mp (if j=k then r a else 8+j)) (.mp 7):=by
 have key :∀j,j<16→SV.ren r (.mp (if j=k then a else 8+j)) = .mp (if j=k then r a else 8+j):=fun j hj=>by
  by_cases e:j=k
  ·rw[if_pos e,if_pos e];rfl
  ·rw[if_neg e,if_neg e];simp only[SV.ren,h (8+j) (by omega)]
 simp only[qJ,SV.rens,key _ (show 0<16 by decide),key _ (show 1<16 by decide),key _ (show 2<16 by decide),key _ (show 3<16 by decide),key _ (show 4<16 by decide),key _ (show 5<16 by decide),key _ (show 6<16 by decide),key _ (show 7<16 by decide),key _ (show 8<16 by decide),key _ (show 9<16 by decide),key _ (show 10<16 by decide),key _ (show 11<16 by decide),key _ (show 12<16 by decide),key _ (show 13<16 by decide),key _ (show 14<16 by decide),key _ (show 15<16 by decide)]
 simp only[SV.ren,h 1 (by omega),h 2 (by omega),h 3 (by omega),h 4 (by omega),h 5 (by omega),h 6 (by omega),h 7 (by omega)]
theorem lcells_sc {S:Nat→Prop}(h :∀i,i<24→S i)(t inp:Int)(k a:Nat)(ha:S a):SV.scs S (qJ (ii t) inp (fun j=>.mp (if j=k then a else 8+j)) (.mp 7)):=by
 have key :∀j,j<16→SV.sc S (.mp (if j=k then a else 8+j)):=fun j hj=>by
  show S (if j=k then a else 8+j)
  split
  ·exact ha
  ·exact h _ (by omega)
 exact⟨trivial,h 1 (by omega),trivial,h 2 (by omega),h 3 (by omega),key 0 (by decide),key 1 (by decide),key 2 (by decide),key 3 (by decide),key 4 (by decide),key 5 (by decide),key 6 (by decide),key 7 (by decide),key 8 (by decide),key 9 (by decide),key 10 (by decide),key 11 (by decide),key 12 (by decide),key 13 (by decide),key 14 (by decide),key 15 (by decide),h 4 (by omega),h 5 (by omega),h 6 (by omega),h 7 (by omega),trivial⟩
theorem xY (S:Nat→Prop) :∀(l:List Bool),SV.scs S (l.map fun b=>.v (.bool b))
 | []=>trivial
 |_::l=>⟨trivial,xY S l⟩
theorem qS (S:Nat→Prop) :∀(l:List Ste),SV.scs S (l.flatMap Ste.cells)
 | []=>trivial
 |s::l=>by
  rw[List.flatMap_cons]
  exact⟨trivial,trivial,qS S l⟩
def stepM (C:List SV)(N:List Prm)(S:List Syn)(st:List Ste)(rs:List Rul)(pl:List Int)(m:List Mrk)(tot:List (Key×Value))(sm:Nat→List Int):List (Nat×SObj):=[(0,.cells C 96),(1,.rwin 8 N.length (N.flatMap Prm.vals)),(2,.rwin 4 S.length (S.flatMap Syn.vals)),(3,.row 2 N.length (st.flatMap Ste.cells) 139),(4,.rwin 10 rs.length (rs.flatMap Rul.vals)),(5,.rwin 1 pl.length (qD pl)),(6,.row 4 pl.length (m.flatMap Mrk.cells) 84),(7,.kwin true tot),(8,.kwin false (qA (sm 0))),(9,.kwin false (qA (sm 1))),(10,.kwin false (qA (sm 2))),(11,.kwin false (qA (sm 3))),(12,.kwin false (qA (sm 4))),(13,.kwin false (qA (sm 5))),(14,.kwin false (qA (sm 6))),(15,.kwin false (qA (sm 7))),(16,.kwin false (qA (sm 8))),(17,.kwin false (qA (sm 9))),(18,.kwin false (qA (sm 10))),(19,.kwin false (qA (sm 11))),(20,.kwin false (qA (sm 12))),(21,.kwin false (qA (sm 13))),(22,.kwin false (qA (sm 14))),(23,.kwin false (qA (sm 15)))]
structure StepOK (tick:Int) (N:List Prm) (S:List Syn) (st:List Ste) (rs:List Rul) (pl:List Int) (m:List Mrk) (rw0:List Int) (nin:Nat):Prop where
 tick0:0≤tick
 tick1:tick<4611686018427387904
 lpl:pl.length=S.length
 lm:m.length=S.length
 lst:st.length=N.length
 lrw:rw0.length=rs.length
 lS:S.length≤8192
 lN:N.length≤1024
 lin:nin<4611686018427387904
 to0 :∀i (h:i<S.length),0≤S[i].to
 to1 :∀i (h:i<S.length),S[i].to<(N.length:Int)
 d0 :∀i (h:i<S.length),1≤S[i].d
 d1 :∀i (h:i<S.length),S[i].d≤16
 p1 :∀i (h:i<pl.length),pl[i]<(rs.length:Int)
 kind :∀i (h:i<rs.length),rs[i].kind=1∨rs[i].kind=2
 shift :∀i (h:i<rs.length),0≤rs[i].shift
 ok :∀i (h:i<N.length) (h':i<st.length),vld N[i] st[i]=0
theorem step_spec (tick inp:Int)(N:List Prm)(S:List Syn)(st:List Ste)(rs:List Rul)(pl:List Int)(m m':List Mrk)(tot:List (Key×Value))(sm:Nat→List Int)(inputs rw0:List Int)(h:StepOK tick N S st rs pl m rw0 inputs.length)(hti:KInt tot)
  (hok:RestOK S rs pl tot (qH S rs pl (pL S rs pl (aL sm tick S m N.length).1 (nL N (aL sm tick S m N.length).2 st).2.2 rw0 m)) (pL S rs pl (aL sm tick S m N.length).1 (nL N (aL sm tick S m N.length).2 st).2.2 rw0 m))
  (hm' :∀ks,ks.Nodup→(∀k∈ks,k<(qH S rs pl (pL S rs pl (aL sm tick S m N.length).1 (nL N (aL sm tick S m N.length).2 st).2.2 rw0 m)).length)→(∀k,k<(qH S rs pl (pL S rs pl (aL sm tick S m N.length).1 (nL N (aL sm tick S m N.length).2 st).2.2 rw0 m)).length→k∈ks)→jZ S rs pl tot (qH S rs pl (pL S rs pl (aL sm tick S m N.length).1 (nL N (aL sm tick S m N.length).2 st).2.2 rw0 m)) (pL S rs pl (aL sm tick S m N.length).1 (nL N (aL sm tick S m N.length).2 st).2.2 rw0 m) ks=m') :
  BSpec Try.prog 52 [.ptr 0 0,.opq 24,.opq 25] (stepM (qJ (ii tick) inp (fun k=>.mp (8+k)) (.mp 7)) N S st rs pl m tot sm++[(24,.rwin 1 inputs.length (qD inputs)),(25,.rwin 1 rw0.length (qD rw0))]) 26 [0,3,6] (.opq 27)
   ([(26,.kmap false true (qA (x9 (nL N (aL sm tick S m N.length).2 st).2.2 inputs))),(27,.row 1 (nL N (aL sm tick S m N.length).2 st).2.1.length ((nL N (aL sm tick S m N.length).2 st).2.1.map fun x=>ii x) 3)]++stepM (qJ (ii (W (tick+1))) inp (fun j=>.mp (if j=zE tick then 26 else 8+j)) (.mp 7)) N S (nL N (aL sm tick S m N.length).2 st).1 rs pl m' tot sm) 28:=by
 obtain⟨A,hA⟩ :∃A,aL sm tick S m N.length=A:=⟨_,rfl⟩
 have hAl:A.1.length=S.length∧A.2.length=N.length:=hA▸aY_len sm tick S m N.length S.length
 rw[hA]at hok hm' ⊢
 obtain⟨B,hB⟩ :∃B,nL N A.2 st=B:=⟨_,rfl⟩
 rw[hB]at hok hm' ⊢
 obtain⟨ch,hch⟩ :∃f,chgM=f:=⟨_,rfl⟩
 obtain⟨vd,hvd⟩ :∃f,vld=f:=⟨_,rfl⟩
 obtain⟨sS,hsS⟩ :∃f,jR=f:=⟨_,rfl⟩
 obtain⟨sB,hsB⟩ :∃f,yO=f:=⟨_,rfl⟩
 have hpf:=pfStep_ok
 rw[hch,hvd,hsS,hsB]at hpf
 have hc :∀w L' rd,(∀p,rd=some p→p∈L')→Cx.ok ⟨Try.prog,tab,pfStep ch vd sS sB,52,Try.f52,[],w,L',rd⟩:=fun w L' rd h=>⟨qI,hpf,Try.func52,mixed,h⟩
 obtain⟨htick0,htick1,hpl,hm,hst,hrw,hlS,hlN,hnin,hto0,hto1,hd0,hd1,hp1,hkind,hshift,hvok⟩:=h
 have hsc:SV.scs (· < 24) (qJ (ii tick) inp (fun k=>.mp (8+k)) (.mp 7)):=by simp[qJ,SV.scs,SV.sc]
 have hal:=aY_len sm tick S m N.length
 refine BSpec.start (tab:=tab) (pf:=pfStep ch vd sS sB) (cuts:=[]) Try.func52 rfl ⟨(show 0<26 by decide),(show 24<26 by decide),ltb rfl,trivial⟩ rfl fun w L0 plp hL hLB hcov=>Run.s0 (hc w L0 none nofun) 100 _ ?_
 conv=>whnf
 rw[gN (m:=pl.length) rfl rfl rfl rfl rfl rfl (by omega) (by omega)]
 conv=>whnf
 rw[gN (m:=N.length) rfl rfl rfl rfl rfl rfl (by omega) (by omega)]
 conv=>whnf
 refine Run.lJ (T:=fun i=>[(1,.opq 24),(3,.ptr 27 0),(5,.ptr 28 0),(6,nq),(7,.ptr 30 0),(8,.opq 31),(42,.opq 2),(43,ii (S.length:Int)),(44,ii (i:Int))]) (M:=fun i=>((26,.pin plp)::(27,.cells [.ptr 0 0] 64)::(28,.cells [.opq 25] 27)::(0,.cells (qJ (ii tick) inp (fun k=>.mp (8+k)) (.mp 7)) 96)::(1,.rwin 8 N.length (N.flatMap Prm.vals))::(2,.rwin 4 S.length (S.flatMap Syn.vals))::(3,.row 2 N.length (st.flatMap Ste.cells) 139)::(4,.rwin 10 rs.length (rs.flatMap Rul.vals))::(5,.rwin 1 pl.length (qD pl))::(6,.row 4 pl.length (m.flatMap Mrk.cells) 84)::(7,.kwin true tot)::(8,.kwin false (qA (sm 0)))::(9,.kwin false (qA (sm 1)))::(10,.kwin false (qA (sm 2)))::(11,.kwin false (qA (sm 3)))::(12,.kwin false (qA (sm 4)))::(13,.kwin false (qA (sm 5)))::(14,.kwin false (qA (sm 6)))::(15,.kwin false (qA (sm 7)))::(16,.kwin false (qA (sm 8)))::(17,.kwin false (qA (sm 9)))::(18,.kwin false (qA (sm 10)))::(19,.kwin false (qA (sm 11)))::(20,.kwin false (qA (sm 12)))::(21,.kwin false (qA (sm 13)))::(22,.kwin false (qA (sm 14)))::(23,.kwin false (qA (sm 15)))::(24,.rwin 1 inputs.length (qD inputs))::(25,.rwin 1 rw0.length (qD rw0))::(29,.row 1 pl.length ((aY sm tick S m N.length i).1.map fun b=>.v (.bool b)) 4)::(30,.cells [.opq 29] 150)::(31,.row 1 N.length ((aY sm tick S m N.length i).2.map fun x=>ii x) 3)::[])) 32 (fun _=>True) (S.length) (by repeat first|exact trivial|refine⟨⟨rfl,ltb rfl⟩,?_⟩|refine⟨⟨rfl,trivial⟩,?_⟩) ⟨⟨rfl,ltb rfl,pnx hcov rfl⟩,⟨rfl,ltb rfl,⟨ltb rfl,trivial⟩⟩,⟨rfl,ltb rfl,⟨ltb rfl,trivial⟩⟩,⟨rfl,ltb rfl,SV.s7 (by decide) hsc⟩,⟨rfl,ltb rfl,trivial⟩,⟨rfl,ltb rfl,trivial⟩,⟨rfl,ltb rfl,qS _ _⟩,⟨rfl,ltb rfl,trivial⟩,⟨rfl,ltb rfl,trivial⟩,⟨rfl,ltb rfl,qN _ _⟩,⟨rfl,ltb rfl,trivial⟩,⟨rfl,ltb rfl,trivial⟩,⟨rfl,ltb rfl,trivial⟩,⟨rfl,ltb rfl,trivial⟩,⟨rfl,ltb rfl,trivial⟩,⟨rfl,ltb rfl,trivial⟩,⟨rfl,ltb rfl,trivial⟩,⟨rfl,ltb rfl,trivial⟩,⟨rfl,ltb rfl,trivial⟩,⟨rfl,ltb rfl,trivial⟩,⟨rfl,ltb rfl,trivial⟩,⟨rfl,ltb rfl,trivial⟩,⟨rfl,ltb rfl,trivial⟩,⟨rfl,ltb rfl,trivial⟩,⟨rfl,ltb rfl,trivial⟩,⟨rfl,ltb rfl,trivial⟩,⟨rfl,ltb rfl,trivial⟩,⟨rfl,ltb rfl,trivial⟩,⟨rfl,ltb rfl,trivial⟩,⟨by simp[aY,hpl];rfl,by omega,xY _ _⟩,⟨rfl,ltb rfl,⟨ltb rfl,trivial⟩⟩,⟨by simp[aY];rfl,by omega,Os.h _⟩,trivial⟩ (fun q hq=>Nat.lt_of_lt_of_le (hLB q hq) (by decide)) ?_ ?_ ?_
 ·exact trivial
 ·intro i hi hJ ih
  refine Run.W2 hc ?_
  conv=>whnf
  rw[decide_eq_true (show((i:Nat):Int)<(S.length:Int)by omega)]
  conv=>whnf
  have hgd:S.getD i zC=S[i]:=by simp[List.getD_eq_getElem?_getD,hi]
  have him:i<m.length:=by omega
  have hmd:m.getD i qW=m[i]:=by simp[List.getD_eq_getElem?_getD,him]
  have e:=aY_succ sm tick S m N.length i
  unfold aStep at e
  rw[hgd,hmd]at e
  refine⟨by omega,?_⟩
  conv=>whnf
  rw[jI (f:=Syn.vals) (l:=S) i rfl rfl rfl rfl rfl Syn.vlen (by rw[qQ]) hi]
  conv=>whnf
  refine Run.draw (hc w L0 none nofun) 26 ?_
  rw[show qG 0 26=qG 0 10++(qG 10 14++qG 24 2)from rfl]
  simp only[qV]
  conv=>whnf
  have hback :∀x,x=aY sm tick S m N.length (i+1)→aY sm tick S m N.length (i+1)=x:=fun x h=>h.symm
  cases b1:decide (S[i].d≤tick)
  case false=>
   have b1n:=of_decide_eq_false b1
   have e2:aY sm tick S m N.length (i+1)=aY sm tick S m N.length i:=by rw[e,if_neg (fun h=>by unfold arrB at h;rw[b1]at h;cases h)]
   conv=>whnf
   refine⟨by kernel_rfl,?_⟩
   refine Run.W2 hc ?_
   conv=>whnf
   exact Run.tH (ih trivial) (by repeat first|exact trivial|refine⟨⟨rfl,ltb rfl⟩,?_⟩|refine⟨⟨rfl,trivial⟩,?_⟩|refine⟨⟨wsx (by omega),trivial⟩,?_⟩) (by repeat first|exact trivial|refine⟨⟨rfl,ltb rfl,pnx hcov rfl⟩,?_⟩|refine⟨⟨rfl,ltb rfl,⟨ltb rfl,trivial⟩⟩,?_⟩|refine⟨⟨rfl,ltb rfl,SV.s7 (by decide) hsc⟩,?_⟩|refine⟨⟨rfl,ltb rfl,trivial⟩,?_⟩|refine⟨⟨rfl,ltb rfl,qS _ _⟩,?_⟩|refine⟨⟨rfl,ltb rfl,qN _ _⟩,?_⟩|refine⟨⟨by rw[e2];rfl,by omega,xY _ _⟩,?_⟩|refine⟨⟨by rw[e2];rfl,by omega,Os.h _⟩,?_⟩) (fun q hq=>Nat.lt_of_lt_of_le (hLB q hq) (by decide))
  have b1':=of_decide_eq_true b1
  have hdd0:=hd0 i hi
  have hdd1:=hd1 i hi
  have hwr:IntKind.i64.wrap (tick-S[i].d)=tick-S[i].d:=zL (by omega) (by omega)
  have hsl:(tick-S[i].d).tmod 16=((zE (tick-S[i].d):Nat):Int):=gZ (by omega)
  have hk16:=yI (t:=tick-S[i].d)
  have earr:arrB sm tick S[i]=decide (S[i].fr∈sm (zE (tick-S[i].d))):=by unfold arrB;rw[b1];rfl
  rw[earr]at e
  conv=>whnf
  refine⟨by decide,?_⟩
  rw[hwr,hsl]
  generalize zE (tick-S[i].d)=k at e hk16
  conv=>whnf
  refine⟨by omega,?_⟩
  conv=>whnf
  rw[tY (c:=.mp (8+k)) rfl rfl rfl rfl (by rw[qQ];rcases lt16 hk16 with rfl|rfl|rfl|rfl|rfl|rfl|rfl|rfl|rfl|rfl|rfl|rfl|rfl|rfl|rfl|rfl<;>rfl)]
  conv=>whnf
  refine⟨by kernel_rfl,?_⟩
  refine Run.W2 hc ?_
  conv=>whnf
  rw[opF_lookupW (j:=8+k) (l:=qA (sm k)) (k:=.i S[i].fr) rfl rfl rfl rfl (by rcases lt16 hk16 with rfl|rfl|rfl|rfl|rfl|rfl|rfl|rfl|rfl|rfl|rfl|rfl|rfl|rfl|rfl|rfl<;>rfl) rfl,t7]
  conv=>whnf
  cases b2:decide (S[i].fr∈sm k)
  case false=>
   have e2:aY sm tick S m N.length (i+1)=aY sm tick S m N.length i:=by rw[e,if_neg (by rw[b2];decide)]
   conv=>whnf
   exact Run.tH (ih trivial) (by repeat first|exact trivial|refine⟨⟨rfl,ltb rfl⟩,?_⟩|refine⟨⟨rfl,trivial⟩,?_⟩|refine⟨⟨wsx (by omega),trivial⟩,?_⟩) (by repeat first|exact trivial|refine⟨⟨rfl,ltb rfl,pnx hcov rfl⟩,?_⟩|refine⟨⟨rfl,ltb rfl,⟨ltb rfl,trivial⟩⟩,?_⟩|refine⟨⟨rfl,ltb rfl,SV.s7 (by decide) hsc⟩,?_⟩|refine⟨⟨rfl,ltb rfl,trivial⟩,?_⟩|refine⟨⟨rfl,ltb rfl,qS _ _⟩,?_⟩|refine⟨⟨rfl,ltb rfl,qN _ _⟩,?_⟩|refine⟨⟨by rw[e2];rfl,by omega,xY _ _⟩,?_⟩|refine⟨⟨by rw[e2];rfl,by omega,Os.h _⟩,?_⟩) (fun q hq=>Nat.lt_of_lt_of_le (hLB q hq) (by decide))
  rw[if_pos b2]at e
  have haln:=aY_len sm tick S m N.length i
  have ht0:=hto0 i hi
  have ht1:=hto1 i hi
  have htl:S[i].to.toNat<(aY sm tick S m N.length i).2.length:=by omega
  have htd:(aY sm tick S m N.length i).2.getD S[i].to.toNat 0=(aY sm tick S m N.length i).2[S[i].to.toNat]:=by simp[List.getD_eq_getElem?_getD,htl]
  rw[htd]at e
  conv=>whnf
  refine⟨by omega,?_⟩
  conv=>whnf
  rw[uJ (v:=.v (.bool true)) i rfl rfl rfl rfl rfl (by rw[qQ,Nat.mul_one]) (by rw[List.length_map];omega) rfl rfl]
  conv=>whnf
  refine Run.draw (hc w L0 none nofun) 13 ?_
  rw[show qG 0 13=qG 0 5++qG 5 8 from rfl]
  simp only[qV]
  conv=>whnf
  refine⟨by omega,?_⟩
  conv=>whnf
  rw[xW (c:=ii (aY sm tick S m N.length i).2[S[i].to.toNat]) S[i].to.toNat rfl rfl rfl rfl (by rw[j9,Nat.mul_one]) (by rw[List.getElem?_map,List.getElem?_eq_getElem htl];rfl)]
  conv=>whnf
  refine⟨by omega,?_⟩
  conv=>whnf
  rw[yM (f:=Mrk.cells) (l:=m) (c:=ii m[i].w) i 0 rfl rfl rfl rfl Mrk.clen (by rw[qQ]) him (by decide) rfl]
  conv=>whnf
  refine⟨by kernel_rfl,?_⟩
  refine Run.W2 hc ?_
  conv=>whnf
  refine⟨by omega,?_⟩
  conv=>whnf
  rw[uJ (v:=ii (W ((aY sm tick S m N.length i).2[S[i].to.toNat]+m[i].w))) S[i].to.toNat rfl rfl rfl rfl rfl (by rw[j9,Nat.mul_one]) (by rw[List.length_map];omega) rfl rfl]
  conv=>whnf
  exact Run.tH (ih (trivial)) (by repeat first|exact trivial|refine⟨⟨rfl,ltb rfl⟩,?_⟩|refine⟨⟨rfl,trivial⟩,?_⟩|refine⟨⟨wsx (by omega),trivial⟩,?_⟩) (by repeat first|exact trivial|refine⟨⟨rfl,ltb rfl,pnx hcov rfl⟩,?_⟩|refine⟨⟨rfl,ltb rfl,⟨ltb rfl,trivial⟩⟩,?_⟩|refine⟨⟨rfl,ltb rfl,SV.s7 (by decide) hsc⟩,?_⟩|refine⟨⟨rfl,ltb rfl,trivial⟩,?_⟩|refine⟨⟨rfl,ltb rfl,qS _ _⟩,?_⟩|refine⟨⟨rfl,ltb rfl,qN _ _⟩,?_⟩|refine⟨⟨by rw[e,List.map_set];rfl,by omega,xY _ _⟩,?_⟩|refine⟨⟨by rw[e,List.map_set];rfl,by omega,Os.h _⟩,?_⟩) (fun q hq=>Nat.lt_of_lt_of_le (hLB q hq) (by decide))
 ·intro hJ
  refine Run.W2 hc ?_
  conv=>whnf
  rw[decide_eq_false (show ¬((S.length:Nat):Int)<(S.length:Int)by omega)]
  conv=>whnf
  refine Run.s6 (T':=[(1,.opq 24),(3,.ptr 27 0),(5,.ptr 28 0),(6,nq),(7,.ptr 30 0),(8,.opq 31),(11,.ptr 33 0),(12,nq),(102,.opq 1),(103,ii (N.length:Int)),(104,ii ((0:Nat):Int))]) (M':=((26,.pin plp)::(27,.cells [.ptr 0 0] 64)::(28,.cells [.opq 25] 27)::(0,.cells (qJ (ii tick) inp (fun k=>.mp (8+k)) (.mp 7)) 96)::(1,.rwin 8 N.length (N.flatMap Prm.vals))::(2,.rwin 4 S.length (S.flatMap Syn.vals))::(3,.row 2 N.length ((nY N A.2 st (0:Nat)).1.flatMap Ste.cells) 139)::(4,.rwin 10 rs.length (rs.flatMap Rul.vals))::(5,.rwin 1 pl.length (qD pl))::(6,.row 4 pl.length (m.flatMap Mrk.cells) 84)::(7,.kwin true tot)::(8,.kwin false (qA (sm 0)))::(9,.kwin false (qA (sm 1)))::(10,.kwin false (qA (sm 2)))::(11,.kwin false (qA (sm 3)))::(12,.kwin false (qA (sm 4)))::(13,.kwin false (qA (sm 5)))::(14,.kwin false (qA (sm 6)))::(15,.kwin false (qA (sm 7)))::(16,.kwin false (qA (sm 8)))::(17,.kwin false (qA (sm 9)))::(18,.kwin false (qA (sm 10)))::(19,.kwin false (qA (sm 11)))::(20,.kwin false (qA (sm 12)))::(21,.kwin false (qA (sm 13)))::(22,.kwin false (qA (sm 14)))::(23,.kwin false (qA (sm 15)))::(24,.rwin 1 inputs.length (qD inputs))::(25,.rwin 1 rw0.length (qD rw0))::(29,.row 1 pl.length (A.1.map fun b=>.v (.bool b)) 4)::(30,.cells [.opq 29] 150)::(31,.row 1 N.length (A.2.map fun x=>ii x) 3)::(32,.kmap false true (qA (nY N A.2 st (0:Nat)).2.2))::(33,.cells [.mp 32] 89)::[])) 34 ?_ ?_ (fun q hq=>Nat.lt_of_lt_of_le (hLB q hq) (by decide)) ?_
  ·exact(by repeat first|exact trivial|refine⟨⟨rfl,ltb rfl⟩,?_⟩|refine⟨⟨rfl,trivial⟩,?_⟩)
  ·exact(by repeat first|exact trivial|refine⟨⟨rfl,ltb rfl,pnx hcov rfl⟩,?_⟩|refine⟨⟨rfl,ltb rfl,⟨ltb rfl,trivial⟩⟩,?_⟩|refine⟨⟨rfl,ltb rfl,SV.s7 (by decide) hsc⟩,?_⟩|refine⟨⟨rfl,ltb rfl,trivial⟩,?_⟩|refine⟨⟨rfl,by omega,qS _ _⟩,?_⟩|refine⟨⟨rfl,ltb rfl,qN _ _⟩,?_⟩|refine⟨⟨by rw[←hA];rfl,by omega,xY _ _⟩,?_⟩|refine⟨⟨by rw[←hA];rfl,by omega,Os.h _⟩,?_⟩)
  refine Run.nilRow (T':=[(1,.opq 24),(3,.ptr 27 0),(5,.ptr 28 0),(6,nq),(7,.ptr 30 0),(8,.opq 31),(11,.ptr 33 0),(12,.opq 34),(102,.opq 1),(103,ii (N.length:Int)),(104,ii ((0:Nat):Int))]) (M':=((26,.pin plp)::(27,.cells [.ptr 0 0] 64)::(28,.cells [.opq 25] 27)::(0,.cells (qJ (ii tick) inp (fun k=>.mp (8+k)) (.mp 7)) 96)::(1,.rwin 8 N.length (N.flatMap Prm.vals))::(2,.rwin 4 S.length (S.flatMap Syn.vals))::(3,.row 2 N.length ((nY N A.2 st (0:Nat)).1.flatMap Ste.cells) 139)::(4,.rwin 10 rs.length (rs.flatMap Rul.vals))::(5,.rwin 1 pl.length (qD pl))::(6,.row 4 pl.length (m.flatMap Mrk.cells) 84)::(7,.kwin true tot)::(8,.kwin false (qA (sm 0)))::(9,.kwin false (qA (sm 1)))::(10,.kwin false (qA (sm 2)))::(11,.kwin false (qA (sm 3)))::(12,.kwin false (qA (sm 4)))::(13,.kwin false (qA (sm 5)))::(14,.kwin false (qA (sm 6)))::(15,.kwin false (qA (sm 7)))::(16,.kwin false (qA (sm 8)))::(17,.kwin false (qA (sm 9)))::(18,.kwin false (qA (sm 10)))::(19,.kwin false (qA (sm 11)))::(20,.kwin false (qA (sm 12)))::(21,.kwin false (qA (sm 13)))::(22,.kwin false (qA (sm 14)))::(23,.kwin false (qA (sm 15)))::(24,.rwin 1 inputs.length (qD inputs))::(25,.rwin 1 rw0.length (qD rw0))::(29,.row 1 pl.length (A.1.map fun b=>.v (.bool b)) 4)::(30,.cells [.opq 29] 150)::(31,.row 1 N.length (A.2.map fun x=>ii x) 3)::(32,.kmap false true (qA (nY N A.2 st (0:Nat)).2.2))::(33,.cells [.mp 32] 89)::(34,.row 1 (nY N A.2 st (0:Nat)).2.1.length ((nY N A.2 st (0:Nat)).2.1.map fun x=>ii x) 3)::[])) 1 3
   (AllP.mem (by repeat first|exact trivial|refine⟨⟨_,rfl,.inl rfl⟩,?_⟩|refine⟨⟨_,rfl,.inr ⟨rfl,rfl⟩⟩,?_⟩))
   (AllP.mem (by repeat first|exact trivial|refine⟨.inr ⟨_,rfl,.inl rfl⟩,?_⟩|refine⟨.inl rfl,?_⟩)) ?_
  refine Run.rD (T:=fun i=>[(1,.opq 24),(3,.ptr 27 0),(5,.ptr 28 0),(6,nq),(7,.ptr 30 0),(8,.opq 31),(11,.ptr 33 0),(12,.opq 34),(102,.opq 1),(103,ii (N.length:Int)),(104,ii (i:Int))]) (M:=fun i=>((26,.pin plp)::(27,.cells [.ptr 0 0] 64)::(28,.cells [.opq 25] 27)::(0,.cells (qJ (ii tick) inp (fun k=>.mp (8+k)) (.mp 7)) 96)::(1,.rwin 8 N.length (N.flatMap Prm.vals))::(2,.rwin 4 S.length (S.flatMap Syn.vals))::(3,.row 2 N.length ((nY N A.2 st i).1.flatMap Ste.cells) 139)::(4,.rwin 10 rs.length (rs.flatMap Rul.vals))::(5,.rwin 1 pl.length (qD pl))::(6,.row 4 pl.length (m.flatMap Mrk.cells) 84)::(7,.kwin true tot)::(8,.kwin false (qA (sm 0)))::(9,.kwin false (qA (sm 1)))::(10,.kwin false (qA (sm 2)))::(11,.kwin false (qA (sm 3)))::(12,.kwin false (qA (sm 4)))::(13,.kwin false (qA (sm 5)))::(14,.kwin false (qA (sm 6)))::(15,.kwin false (qA (sm 7)))::(16,.kwin false (qA (sm 8)))::(17,.kwin false (qA (sm 9)))::(18,.kwin false (qA (sm 10)))::(19,.kwin false (qA (sm 11)))::(20,.kwin false (qA (sm 12)))::(21,.kwin false (qA (sm 13)))::(22,.kwin false (qA (sm 14)))::(23,.kwin false (qA (sm 15)))::(24,.rwin 1 inputs.length (qD inputs))::(25,.rwin 1 rw0.length (qD rw0))::(29,.row 1 pl.length (A.1.map fun b=>.v (.bool b)) 4)::(30,.cells [.opq 29] 150)::(31,.row 1 N.length (A.2.map fun x=>ii x) 3)::(32,.kmap false true (qA (nY N A.2 st i).2.2))::(33,.cells [.mp 32] 89)::(34,.row 1 (nY N A.2 st i).2.1.length ((nY N A.2 st i).2.1.map fun x=>ii x) 3)::[])) (fun _=>True) (N.length) trivial ?_ ?_
  ·intro i hi hJ ih
   refine Run.W2 hc ?_
   conv=>whnf
   rw[decide_eq_true (show((i:Nat):Int)<(N.length:Int)by omega)]
   conv=>whnf
   have en:=vQ N A.2 st i
   have hny:=uO N A.2 st i
   have hsi:i<(nY N A.2 st i).1.length:=by omega
   have hai:i<A.2.length:=by omega
   have hgn:N.getD i prm0=N[i]:=by simp[List.getD_eq_getElem?_getD,hi]
   have hgs:(nY N A.2 st i).1.getD i jC=(nY N A.2 st i).1[i]:=by simp[List.getD_eq_getElem?_getD,hsi]
   have hga:A.2.getD i 0=A.2[i]:=by simp[List.getD_eq_getElem?_getD,hai]
   unfold nStep at en
   simp only[hgn,hgs,hga]at en
   have hsti:i<st.length:=by omega
   have hge:(nY N A.2 st i).1[i]=st[i]:=by
    have:=nY_ge N A.2 st i i (Nat.le_refl i)
    rw[List.getElem?_eq_getElem hsi,List.getElem?_eq_getElem hsti]at this
    exact Option.some.inj this
   have hvi:vd N[i] (nY N A.2 st i).1[i]=0:=by rw[hge,←hvd];exact hvok i hi hsti
   rw[hsS,hsB]at en
   refine⟨by omega,?_⟩
   conv=>whnf
   rw[jI (f:=Prm.vals) (l:=N) i rfl rfl rfl rfl rfl Prm.vlen (by rw[qQ]) hi]
   conv=>whnf
   refine Run.draw (hc w L0 none nofun) 21 ?_
   rw[show qG 0 21=qG 0 9++(qG 9 4++(qG 13 1++qG 14 7))from rfl]
   simp only[qV]
   conv=>whnf
   refine⟨by omega,?_⟩
   conv=>whnf
   rw[wK (f:=Ste.cells) (l:=(nY N A.2 st i).1) i rfl rfl rfl rfl rfl (fun _=>rfl) (by rw[qQ]) hsi]
   conv=>whnf
   refine⟨by omega,?_⟩
   conv=>whnf
   rw[xW (c:=ii A.2[i]) i rfl rfl rfl rfl (by rw[qQ,Nat.mul_one]) (by rw[List.getElem?_map,List.getElem?_eq_getElem hai];rfl)]
   conv=>whnf
   rw[uP (v:=.tup [.agg [ii (sS N[i] (nY N A.2 st i).1[i] A.2[i]).v,ii (sS N[i] (nY N A.2 st i).1[i] A.2[i]).rest],.v (.bool (sB N[i] (nY N A.2 st i).1[i] A.2[i])),ii 0]) (bs:=[]) rfl rfl rfl rfl (FTick_eq vd sS sB _ N[i] (nY N A.2 st i).1[i] A.2[i] hvi)]
   conv=>whnf
   refine⟨by kernel_rfl,?_⟩
   refine Run.W2 hc ?_
   conv=>whnf
   refine Run.draw (hc w L0 none nofun) 7 ?_
   conv=>whnf
   refine⟨by kernel_rfl,?_⟩
   refine Run.W2 hc ?_
   conv=>whnf
   refine⟨by omega,?_⟩
   conv=>whnf
   rw[opF_storeR (e:=2) (f:=Ste.cells) (l:=(nY N A.2 st i).1) i (sS N[i] (nY N A.2 st i).1[i] A.2[i]) rfl rfl rfl rfl rfl (fun _=>rfl) (by rw[qQ]) hsi (by decide) rfl rfl]
   conv=>whnf
   cases hsp:sB N[i] (nY N A.2 st i).1[i] A.2[i]
   case false=>
    rw[hsp,if_neg (by decide)]at en
    conv=>whnf
    refine Run.tH (ih trivial) ?_ ?_ (fun q hq=>Nat.lt_of_lt_of_le (hLB q hq) (by decide))
    ·exact(by repeat first|exact trivial|refine⟨⟨rfl,ltb rfl⟩,?_⟩|refine⟨⟨rfl,trivial⟩,?_⟩|refine⟨⟨wsx (by omega),trivial⟩,?_⟩)
    ·exact(by repeat first|exact trivial|refine⟨⟨rfl,ltb rfl,pnx hcov rfl⟩,?_⟩|refine⟨⟨rfl,ltb rfl,⟨ltb rfl,trivial⟩⟩,?_⟩|refine⟨⟨rfl,ltb rfl,SV.s7 (by decide) hsc⟩,?_⟩|refine⟨⟨rfl,ltb rfl,trivial⟩,?_⟩|refine⟨⟨rfl,ltb rfl,qN _ _⟩,?_⟩|refine⟨⟨rfl,ltb rfl,xY _ _⟩,?_⟩|refine⟨⟨rfl,ltb rfl,qB _ _⟩,?_⟩|refine⟨⟨by rw[en];rfl,by omega,qS _ _⟩,?_⟩|refine⟨⟨by rw[en];rfl,by omega,trivial⟩,?_⟩|refine⟨⟨by rw[en];rfl,by omega,Os.h _⟩,?_⟩)
   rw[hsp,if_pos rfl]at en
   have hno:=wB N A.2 st i
   conv=>whnf
   refine Run.append (hc w L0 none nofun) rfl rfl rfl rfl rfl rfl rfl rfl rfl rfl rfl rfl rfl rfl rfl (by omega) ⟨by omega,by omega⟩ ((26,_)::(27,_)::(28,_)::(0,_)::(1,_)::(2,_)::(3,_)::(4,_)::(5,_)::(6,_)::(7,_)::(8,_)::(9,_)::(10,_)::(11,_)::(12,_)::(13,_)::(14,_)::(15,_)::(16,_)::(17,_)::(18,_)::(19,_)::(20,_)::(21,_)::(22,_)::(23,_)::(24,_)::(25,_)::(29,_)::(30,_)::(31,_)::(32,_)::(33,_)::[])
    (AllP.mem (by repeat first|exact trivial|refine⟨⟨rfl,by omega⟩,?_⟩)) ?_
   refine Run.W2 hc ?_
   conv=>whnf
   refine Run.trimR (T':=[(1,.opq 24),(3,.ptr 27 0),(5,.ptr 28 0),(6,nq),(7,.ptr 30 0),(8,.opq 31),(11,.ptr 33 0),(12,.opq 34),(102,.opq 1),(103,ii (N.length:Int)),(104,ii ((i+1:Nat):Int))]) (M':=((26,.pin plp)::(27,.cells [.ptr 0 0] 64)::(28,.cells [.opq 25] 27)::(0,.cells (qJ (ii tick) inp (fun k=>.mp (8+k)) (.mp 7)) 96)::(1,.rwin 8 N.length (N.flatMap Prm.vals))::(2,.rwin 4 S.length (S.flatMap Syn.vals))::(3,.row 2 N.length ((nY N A.2 st (i+1:Nat)).1.flatMap Ste.cells) 139)::(4,.rwin 10 rs.length (rs.flatMap Rul.vals))::(5,.rwin 1 pl.length (qD pl))::(6,.row 4 pl.length (m.flatMap Mrk.cells) 84)::(7,.kwin true tot)::(8,.kwin false (qA (sm 0)))::(9,.kwin false (qA (sm 1)))::(10,.kwin false (qA (sm 2)))::(11,.kwin false (qA (sm 3)))::(12,.kwin false (qA (sm 4)))::(13,.kwin false (qA (sm 5)))::(14,.kwin false (qA (sm 6)))::(15,.kwin false (qA (sm 7)))::(16,.kwin false (qA (sm 8)))::(17,.kwin false (qA (sm 9)))::(18,.kwin false (qA (sm 10)))::(19,.kwin false (qA (sm 11)))::(20,.kwin false (qA (sm 12)))::(21,.kwin false (qA (sm 13)))::(22,.kwin false (qA (sm 14)))::(23,.kwin false (qA (sm 15)))::(24,.rwin 1 inputs.length (qD inputs))::(25,.rwin 1 rw0.length (qD rw0))::(29,.row 1 pl.length (A.1.map fun b=>.v (.bool b)) 4)::(30,.cells [.opq 29] 150)::(31,.row 1 N.length (A.2.map fun x=>ii x) 3)::(32,.kmap false true (qA (nY N A.2 st (i+1:Nat)).2.2))::(33,.cells [.mp 32] 89)::(34,.row 1 (nY N A.2 st (i+1:Nat)).2.1.length ((nY N A.2 st (i+1:Nat)).2.1.map fun x=>ii x) 3)::[])) 34 68 35 (by decide) ?_ ?_ (fun q hq=>⟨qU (Nat.lt_of_lt_of_le (hLB q hq) (show 26≤34 by decide)),Nat.lt_of_lt_of_le (hLB q hq) (show 26≤35 by decide)⟩) (ih trivial)
   ·exact(by repeat first|exact trivial|refine⟨⟨rfl,ltb rfl⟩,?_⟩|refine⟨⟨rfl,trivial⟩,?_⟩|refine⟨⟨wsx (by omega),trivial⟩,?_⟩)
   ·exact⟨⟨congrArg some (oren_fix (S:=(· < 34)) (o:=.pin plp) (fun i hi=>qU hi) (pnx hcov rfl)).symm,by omega,pnx hcov rfl⟩,⟨congrArg some (oren_fix (S:=(· < 34)) (o:=.cells [.ptr 0 0] 64) (fun i hi=>qU hi) (⟨ltb rfl,trivial⟩)).symm,by omega,⟨ltb rfl,trivial⟩⟩,⟨congrArg some (oren_fix (S:=(· < 34)) (o:=.cells [.opq 25] 27) (fun i hi=>qU hi) (⟨ltb rfl,trivial⟩)).symm,by omega,⟨ltb rfl,trivial⟩⟩,⟨congrArg some (oren_fix (S:=(· < 34)) (o:=.cells (qJ (ii tick) inp (fun k=>.mp (8+k)) (.mp 7)) 96) (fun i hi=>qU hi) (SV.s7 (by decide) hsc)).symm,by omega,SV.s7 (by decide) hsc⟩,⟨congrArg some (oren_fix (S:=(· < 34)) (o:=.rwin 8 N.length (N.flatMap Prm.vals)) (fun i hi=>qU hi) (trivial)).symm,by omega,trivial⟩,⟨congrArg some (oren_fix (S:=(· < 34)) (o:=.rwin 4 S.length (S.flatMap Syn.vals)) (fun i hi=>qU hi) (trivial)).symm,by omega,trivial⟩,⟨by rw[en];exact congrArg some (by simp only[SObj.ren];rw[qY (S:=fun _=>False) (fun i hi=>hi.elim) _ (qS _ _)]),by omega,qS _ _⟩,⟨congrArg some (oren_fix (S:=(· < 34)) (o:=.rwin 10 rs.length (rs.flatMap Rul.vals)) (fun i hi=>qU hi) (trivial)).symm,by omega,trivial⟩,⟨congrArg some (oren_fix (S:=(· < 34)) (o:=.rwin 1 pl.length (qD pl)) (fun i hi=>qU hi) (trivial)).symm,by omega,trivial⟩,⟨congrArg some (oren_fix (S:=(· < 34)) (o:=.row 4 pl.length (m.flatMap Mrk.cells) 84) (fun i hi=>qU hi) (qN _ _)).symm,by omega,Os.h _⟩,⟨congrArg some (oren_fix (S:=(· < 34)) (o:=.kwin true tot) (fun i hi=>qU hi) (trivial)).symm,by omega,trivial⟩,⟨congrArg some (oren_fix (S:=(· < 34)) (o:=.kwin false (qA (sm 0))) (fun i hi=>qU hi) (trivial)).symm,by omega,trivial⟩,⟨congrArg some (oren_fix (S:=(· < 34)) (o:=.kwin false (qA (sm 1))) (fun i hi=>qU hi) (trivial)).symm,by omega,trivial⟩,⟨congrArg some (oren_fix (S:=(· < 34)) (o:=.kwin false (qA (sm 2))) (fun i hi=>qU hi) (trivial)).symm,by omega,trivial⟩,⟨congrArg some (oren_fix (S:=(· < 34)) (o:=.kwin false (qA (sm 3))) (fun i hi=>qU hi) (trivial)).symm,by omega,trivial⟩,⟨congrArg some (oren_fix (S:=(· < 34)) (o:=.kwin false (qA (sm 4))) (fun i hi=>qU hi) (trivial)).symm,by omega,trivial⟩,⟨congrArg some (oren_fix (S:=(· < 34)) (o:=.kwin false (qA (sm 5))) (fun i hi=>qU hi) (trivial)).symm,by omega,trivial⟩,⟨congrArg some (oren_fix (S:=(· < 34)) (o:=.kwin false (qA (sm 6))) (fun i hi=>qU hi) (trivial)).symm,by omega,trivial⟩,⟨congrArg some (oren_fix (S:=(· < 34)) (o:=.kwin false (qA (sm 7))) (fun i hi=>qU hi) (trivial)).symm,by omega,trivial⟩,⟨congrArg some (oren_fix (S:=(· < 34)) (o:=.kwin false (qA (sm 8))) (fun i hi=>qU hi) (trivial)).symm,by omega,trivial⟩,⟨congrArg some (oren_fix (S:=(· < 34)) (o:=.kwin false (qA (sm 9))) (fun i hi=>qU hi) (trivial)).symm,by omega,trivial⟩,⟨congrArg some (oren_fix (S:=(· < 34)) (o:=.kwin false (qA (sm 10))) (fun i hi=>qU hi) (trivial)).symm,by omega,trivial⟩,⟨congrArg some (oren_fix (S:=(· < 34)) (o:=.kwin false (qA (sm 11))) (fun i hi=>qU hi) (trivial)).symm,by omega,trivial⟩,⟨congrArg some (oren_fix (S:=(· < 34)) (o:=.kwin false (qA (sm 12))) (fun i hi=>qU hi) (trivial)).symm,by omega,trivial⟩,⟨congrArg some (oren_fix (S:=(· < 34)) (o:=.kwin false (qA (sm 13))) (fun i hi=>qU hi) (trivial)).symm,by omega,trivial⟩,⟨congrArg some (oren_fix (S:=(· < 34)) (o:=.kwin false (qA (sm 14))) (fun i hi=>qU hi) (trivial)).symm,by omega,trivial⟩,⟨congrArg some (oren_fix (S:=(· < 34)) (o:=.kwin false (qA (sm 15))) (fun i hi=>qU hi) (trivial)).symm,by omega,trivial⟩,⟨congrArg some (oren_fix (S:=(· < 34)) (o:=.rwin 1 inputs.length (qD inputs)) (fun i hi=>qU hi) (trivial)).symm,by omega,trivial⟩,⟨congrArg some (oren_fix (S:=(· < 34)) (o:=.rwin 1 rw0.length (qD rw0)) (fun i hi=>qU hi) (trivial)).symm,by omega,trivial⟩,⟨congrArg some (oren_fix (S:=(· < 34)) (o:=.row 1 pl.length (A.1.map fun b=>.v (.bool b)) 4) (fun i hi=>qU hi) (xY _ _)).symm,by omega,xY _ _⟩,⟨congrArg some (oren_fix (S:=(· < 34)) (o:=.cells [.opq 29] 150) (fun i hi=>qU hi) (⟨ltb rfl,trivial⟩)).symm,by omega,⟨ltb rfl,trivial⟩⟩,⟨congrArg some (oren_fix (S:=(· < 34)) (o:=.row 1 N.length (A.2.map fun x=>ii x) 3) (fun i hi=>qU hi) (qB _ _)).symm,by omega,Os.h _⟩,⟨by rw[en];exact congrArg some (congrArg (SObj.kmap false true) (t8 _ _)),by omega,trivial⟩,⟨congrArg some (oren_fix (S:=(· < 34)) (o:=.cells [.mp 32] 89) (fun i hi=>qU hi) (⟨ltb rfl,trivial⟩)).symm,by omega,⟨ltb rfl,trivial⟩⟩,⟨by rw[en];exact congrArg some (by simp only[SObj.ren];rw[qY (S:=fun _=>False) (fun i hi=>hi.elim) _ (qB _ _)];simp only[List.map_append,List.length_append];rfl),by omega,Os.h _⟩,trivial⟩
  ·intro hJ
   refine Run.W2 hc ?_
   conv=>whnf
   rw[decide_eq_false (show ¬((N.length:Nat):Int)<(N.length:Int)by omega)]
   conv=>whnf
   have hBl:B.1.length=N.length:=by rw[←hB];exact(uO N A.2 st N.length).trans hst
   have hBo:B.2.1.length≤N.length:=by rw[←hB];exact wB N A.2 st N.length
   rw[show nY N A.2 st N.length=B from hB]
   refine Run.rF (vs:=[.ptr 0 0]) (caps:=[]) uV (ent _ _ Try.func81 (by kernel_rfl) rfl) rfl rfl rfl rfl rfl rfl rfl (by decide) (by decide) trivial (fun i hi=>by cases hi) (.fn 103 [.ptr 35 0])
    ((26,.pin plp)::(27,.cells [.ptr 0 0] 64)::(28,.cells [.opq 25] 27)::(0,.cells (qJ (ii tick) inp (fun k=>.mp (8+k)) (.mp 7)) 96)::(1,.rwin 8 N.length (N.flatMap Prm.vals))::(2,.rwin 4 S.length (S.flatMap Syn.vals))::(3,.row 2 N.length (B.1.flatMap Ste.cells) 139)::(4,.rwin 10 rs.length (rs.flatMap Rul.vals))::(5,.rwin 1 pl.length (qD pl))::(6,.row 4 pl.length (m.flatMap Mrk.cells) 84)::(7,.kwin true tot)::(8,.kwin false (qA (sm 0)))::(9,.kwin false (qA (sm 1)))::(10,.kwin false (qA (sm 2)))::(11,.kwin false (qA (sm 3)))::(12,.kwin false (qA (sm 4)))::(13,.kwin false (qA (sm 5)))::(14,.kwin false (qA (sm 6)))::(15,.kwin false (qA (sm 7)))::(16,.kwin false (qA (sm 8)))::(17,.kwin false (qA (sm 9)))::(18,.kwin false (qA (sm 10)))::(19,.kwin false (qA (sm 11)))::(20,.kwin false (qA (sm 12)))::(21,.kwin false (qA (sm 13)))::(22,.kwin false (qA (sm 14)))::(23,.kwin false (qA (sm 15)))::(24,.rwin 1 inputs.length (qD inputs))::(25,.rwin 1 rw0.length (qD rw0))::(29,.row 1 pl.length (A.1.map fun b=>.v (.bool b)) 4)::(30,.cells [.opq 29] 150)::(31,.row 1 N.length (A.2.map fun x=>ii x) 3)::(32,.kmap false true (qA B.2.2))::(33,.cells [.mp 32] 89)::(34,.row 1 B.2.1.length (B.2.1.map fun x=>ii x) 3)::(35,.cells [.ptr 0 0] 64)::[]) 36 rfl rfl (by repeat first|exact trivial|refine⟨.inr ⟨24,_,rfl,rfl,rfl,rfl⟩,?_⟩|refine⟨.inl ⟨rfl,by simp⟩,?_⟩) ?_
   refine Run.W2 hc ?_
   conv=>whnf
   refine Run.rQ fun pl2 hcov2=> ?_
   refine Run.s6 (T':=[(144,.fn 103 [.ptr 35 0]),(1,.opq 24),(3,.ptr 27 0),(5,.ptr 28 0),(6,nq),(7,.ptr 30 0),(11,.ptr 33 0),(12,.opq 34)]) (M':=((26,.pin plp)::(27,.cells [.ptr 0 0] 64)::(28,.cells [.opq 25] 27)::(0,.cells (qJ (ii tick) inp (fun k=>.mp (8+k)) (.mp 7)) 96)::(1,.rwin 8 N.length (N.flatMap Prm.vals))::(2,.rwin 4 S.length (S.flatMap Syn.vals))::(3,.row 2 N.length (B.1.flatMap Ste.cells) 139)::(4,.rwin 10 rs.length (rs.flatMap Rul.vals))::(5,.rwin 1 pl.length (qD pl))::(6,.row 4 pl.length (m.flatMap Mrk.cells) 84)::(7,.kwin true tot)::(8,.kwin false (qA (sm 0)))::(9,.kwin false (qA (sm 1)))::(10,.kwin false (qA (sm 2)))::(11,.kwin false (qA (sm 3)))::(12,.kwin false (qA (sm 4)))::(13,.kwin false (qA (sm 5)))::(14,.kwin false (qA (sm 6)))::(15,.kwin false (qA (sm 7)))::(16,.kwin false (qA (sm 8)))::(17,.kwin false (qA (sm 9)))::(18,.kwin false (qA (sm 10)))::(19,.kwin false (qA (sm 11)))::(20,.kwin false (qA (sm 12)))::(21,.kwin false (qA (sm 13)))::(22,.kwin false (qA (sm 14)))::(23,.kwin false (qA (sm 15)))::(24,.rwin 1 inputs.length (qD inputs))::(25,.rwin 1 rw0.length (qD rw0))::(29,.row 1 pl.length (A.1.map fun b=>.v (.bool b)) 4)::(30,.cells [.opq 29] 150)::(31,.row 1 N.length (A.2.map fun x=>ii x) 3)::(32,.kmap false true (qA B.2.2))::(33,.cells [.mp 32] 89)::(34,.row 1 B.2.1.length (B.2.1.map fun x=>ii x) 3)::(35,.cells [.ptr 0 0] 64)::(36,.pin pl2)::[])) 37 ?_ ?_ (fun q hq=>Nat.lt_of_lt_of_le (hLB q hq) (by decide)) ?_
   ·exact(by repeat first|exact trivial|refine⟨⟨rfl,ltb rfl,trivial⟩,?_⟩|refine⟨⟨rfl,ltb rfl⟩,?_⟩|refine⟨⟨rfl,trivial⟩,?_⟩)
   ·exact(by repeat first|exact trivial|refine⟨⟨rfl,ltb rfl,pnx hcov rfl⟩,?_⟩|refine⟨⟨rfl,ltb rfl,⟨ltb rfl,trivial⟩⟩,?_⟩|refine⟨⟨rfl,ltb rfl,SV.s7 (by decide) hsc⟩,?_⟩|refine⟨⟨rfl,ltb rfl,trivial⟩,?_⟩|refine⟨⟨rfl,ltb rfl,qS _ _⟩,?_⟩|refine⟨⟨rfl,ltb rfl,qN _ _⟩,?_⟩|refine⟨⟨rfl,ltb rfl,xY _ _⟩,?_⟩|refine⟨⟨rfl,ltb rfl,qB _ _⟩,?_⟩|refine⟨⟨rfl,by omega,fun p hp=>Nat.lt_of_lt_of_le (hcov2.1 p hp) (show 36≤37 by decide)⟩,?_⟩)
   refine Run.rangeF (T0:=[(1,.opq 24),(3,.ptr 27 0),(5,.ptr 28 0),(6,nq),(7,.ptr 30 0),(11,.ptr 33 0),(12,.opq 34)]) (caps:=[.ptr 35 0]) rfl (x:=.tmp 144) rfl rfl (ent _ _ Try.func103 (by kernel_rfl) rfl) hcov2 rfl (by decide)
    (fun j=>((26,.pin plp)::(27,.cells [.ptr 0 0] 64)::(28,.cells [.opq 25] 27)::(0,.cells (qJ (ii tick) inp (fun k=>.mp (8+k)) (.mp 7)) 96)::(1,.rwin 8 N.length (N.flatMap Prm.vals))::(2,.rwin 4 S.length (S.flatMap Syn.vals))::(3,.row 2 N.length (B.1.flatMap Ste.cells) 139)::(4,.rwin 10 rs.length (rs.flatMap Rul.vals))::(5,.rwin 1 pl.length (qD pl))::(6,.row 4 pl.length ((pY S rs pl A.1 B.2.2 rw0 m j).flatMap Mrk.cells) 84)::(7,.kwin true tot)::(8,.kwin false (qA (sm 0)))::(9,.kwin false (qA (sm 1)))::(10,.kwin false (qA (sm 2)))::(11,.kwin false (qA (sm 3)))::(12,.kwin false (qA (sm 4)))::(13,.kwin false (qA (sm 5)))::(14,.kwin false (qA (sm 6)))::(15,.kwin false (qA (sm 7)))::(16,.kwin false (qA (sm 8)))::(17,.kwin false (qA (sm 9)))::(18,.kwin false (qA (sm 10)))::(19,.kwin false (qA (sm 11)))::(20,.kwin false (qA (sm 12)))::(21,.kwin false (qA (sm 13)))::(22,.kwin false (qA (sm 14)))::(23,.kwin false (qA (sm 15)))::(24,.rwin 1 inputs.length (qD inputs))::(25,.rwin 1 rw0.length (qD rw0))::(29,.row 1 pl.length (A.1.map fun b=>.v (.bool b)) 4)::(30,.cells [.opq 29] 150)::(31,.row 1 N.length (A.2.map fun x=>ii x) 3)::(32,.kmap false true (qA B.2.2))::(33,.cells [.mp 32] 89)::(34,.row 1 B.2.1.length (B.2.1.map fun x=>ii x) 3)::(35,.cells [.ptr 0 0] 64)::(36,.pin pl2)::[])) 39
    (uB ((envPl pl2).s 6) ((envPl pl2).o 6) pl) (by simp) ?_ ?_ (by decide) (fun _=>rfl) ?_ ?_ (SynI ((envPl pl2).ren (Sx.rs 24 35)) (qJ (ii tick) inp (fun k=>.mp (8+k)) (.mp 7)) pl) ?_ ?_ ?_ ?_
   ·exact AllP.mem (l:=[145,146]) ⟨Nat.le_of_ble_eq_true rfl,Nat.le_of_ble_eq_true rfl,trivial⟩
   ·intro v hv
    rw[xJ]at hv
    obtain⟨ix,_,rfl⟩:=List.mem_map.1 hv
    rfl
   ·exact AllP.mem (by repeat first|exact trivial|refine⟨⟨rfl,ltb rfl⟩,?_⟩|refine⟨⟨rfl,trivial⟩,?_⟩)
   ·exact AllP.mem (by repeat first|exact trivial|refine⟨⟨rfl,by omega⟩,?_⟩)
   ·intro ρ w1 hW1
    have h35:=(hW1.envPl hcov2 rfl) 35 (by decide)
    have ho:ρ.o 35=0:=(hW1.mem 35 _ rfl).2.2.1
    have e:SV.concs ρ [.ptr 35 0]=[Value.pointer (some ⟨((envPl pl2).ren (Sx.rs 24 35)).s 24,0,none⟩)]:=by
     simp only[SV.concs,SV.conc,ho,h35.1];rfl
    rw[e]
    exact syn_iter _ (ii tick) inp (fun k=>.mp (8+k)) (.mp 7) pl (SV.s7 (by decide) hsc) (by omega)
   ·intro i L' ρ' a d w' hwid hW'
    exact SynI.of hW' 35 36 pl2 _ pl ((pY S rs pl A.1 B.2.2 rw0 m i).flatMap Mrk.vals) hcov2 rfl (by decide) (by decide) rfl rfl rfl ⟨_,rfl,Conv.row (by decide) (uF _)⟩ hsc
   ·intro j v hv L' l a d hwid hl hLp
    have hlid :∀p∈L',p.1<39:=fun p hp=>by
     rcases hLp p hp with h|h|h
     ·omega
     ·omega
     ·have:=hLB p h;omega
    rw[xJ,List.getElem?_map]at hv
    cases hix:(zD pl)[j]? with
    |none=>rw[hix]at hv;cases hv
    |some ix=>
    rw[hix]at hv
    obtain rfl:=Option.some.inj hv
    obtain⟨hlt,hge⟩:=uQ (List.mem_of_getElem? hix)
    refine Run.tell (T':=[(145,ii (ix:Int)),(146,.ptr 6 (ix*4)),(1,.opq 24),(3,.ptr 27 0),(5,.ptr 28 0),(6,nq),(7,.ptr 30 0),(11,.ptr 33 0),(12,.opq 34)]) (AllP.mem ⟨⟨_,rfl,trivial,fun _ _ _=>rfl⟩,⟨_,rfl,(show 6<39 by decide),fun ρ w1 hW1=> ?_⟩,⟨_,rfl,(show 24<39 by decide),fun _ _ _=>rfl⟩,⟨_,rfl,(show 27<39 by decide),fun _ _ _=>rfl⟩,⟨_,rfl,(show 28<39 by decide),fun _ _ _=>rfl⟩,⟨_,rfl,trivial,fun _ _ _=>rfl⟩,⟨_,rfl,(show 30<39 by decide),fun _ _ _=>rfl⟩,⟨_,rfl,(show 33<39 by decide),fun _ _ _=>rfl⟩,⟨_,rfl,(show 34<39 by decide),fun _ _ _=>rfl⟩,trivial⟩) ?_
    ·have h6:=(hW1.envPl hcov2 rfl) 6 (by decide)
     simp only[SV.conc,h6.1,h6.2.1]
    have hgd:pl.getD ix (-1)=pl[ix]:=by simp[List.getD_eq_getElem?_getD,hlt]
    have hSl:ix<S.length:=by omega
    have hSd:S.getD ix zC=S[ix]:=by simp[List.getD_eq_getElem?_getD,hSl]
    have hk:=hp1 ix hlt
    have hkl:pl[ix].toNat<rs.length:=by omega
    have hrd:rs.getD pl[ix].toNat jB=rs[pl[ix].toNat]:=by simp[List.getD_eq_getElem?_getD,hkl]
    have hwl:pl[ix].toNat<rw0.length:=by omega
    have hwd:rw0.getD pl[ix].toNat 0=rw0[pl[ix].toNat]:=by simp[List.getD_eq_getElem?_getD,hwl]
    have hal:ix<A.1.length:=by omega
    have had:A.1.getD ix false=A.1[ix]:=by simp[List.getD_eq_getElem?_getD,hal]
    have hylen:(pY S rs pl A.1 B.2.2 rw0 m j).length=m.length:=by unfold pY;rw[wL]
    have e:=pY_succ S rs pl A.1 B.2.2 rw0 m hix
    unfold pStep at e
    rw[hgd,hSd,hrd,hwd,had]at e
    generalize pY S rs pl A.1 B.2.2 rw0 m j=ms at e hylen
    have hml:ix<ms.length:=by omega
    have hmd:ms.getD ix qW=ms[ix]:=by simp[List.getD_eq_getElem?_getD,hml]
    rw[hmd]at e
    refine Run.W1 (hc w L' (some (38,l)) (fun q hq=>by obtain rfl:=Option.some.inj hq;exact hl)) ?_
    conv=>whnf
    refine Run.draw (hc w L' (some (38,l)) (fun q hq=>by obtain rfl:=Option.some.inj hq;exact hl)) 27 ?_
    rw[show qG 0 27=qG 0 11++(qG 11 2++(qG 13 11++(qG 24 1++qG 25 2)))from rfl]
    simp only[qV]
    conv=>whnf
    refine⟨by omega,?_⟩
    conv=>whnf
    rw[yS ix rfl rfl rfl rfl (by rw[qQ,Nat.mul_one]) (xL hlt)]
    conv=>whnf
    refine⟨by omega,?_⟩
    conv=>whnf
    rw[jI (f:=Rul.vals) (l:=rs) pl[ix].toNat rfl rfl rfl rfl rfl Rul.vlen (by rw[j9]) hkl]
    conv=>whnf
    refine⟨by omega,?_⟩
    conv=>whnf
    rw[q9 (f:=Syn.vals) (l:=S) (c:=.int .i64 S[ix].to) ix 1 rfl rfl rfl rfl Syn.vlen (by rw[qQ]) hSl (by decide) rfl]
    conv=>whnf
    rw[t7]
    conv=>whnf
    refine⟨by kernel_rfl,?_⟩
    have hkd:=hkind _ hkl
    have hsh:=hshift _ hkl
    generalize rs[pl[ix].toNat]=r at e hkd hsh ⊢
    generalize decide (S[ix].to∈B.2.2)=spk at e ⊢
    have hkm:pl.length=ms.length:=by omega
    obtain⟨rv,hrv⟩ :∃x,rw0[pl[ix].toNat]=x:=⟨_,rfl⟩
    rw[hrv]at e
    have hf1:=fade_spec r (i:=ix) (k:=pl.length) (ms:=ms) hml hkm
    obtain⟨m1,hm1⟩ :∃x,jV r ms[ix]=x:=⟨_,rfl⟩
    rw[hm1]at hf1
    obtain⟨c1,hc1⟩ :∃x,chgM r m1 spk A.1[ix]=x:=⟨_,rfl⟩
    obtain⟨m2,hm2⟩ :∃x,(if r.kind=1 then pairM m1 c1 else rewM m1 c1 rv)=x:=⟨_,rfl⟩
    rw[gQ hm1 hc1 hm2]at e
    rw[hch]at hc1
    have hm1l:ix<(ms.set ix m1).length:=by rw[List.length_set];exact hml
    have hk2:=kind_spec r c1 rv (i:=ix) (k:=pl.length) (ms:=ms.set ix m1) hm1l (by rw[List.length_set];exact hkm)
    simp only[List.getElem_set_self,List.set_set]at hk2
    rw[hm2]at hk2
    refine Run.W1 (hc w L' (some (38,l)) (fun q hq=>by obtain rfl:=Option.some.inj hq;exact hl)) ?_
    conv=>whnf
    refine Run.rF (vs:=[.ptr 6 (ix*4),.agg (r.vals.map .v)]) (caps:=[]) hf1 (ent _ _ Try.func48 (by kernel_rfl) rfl) rfl rfl rfl rfl rfl rfl rfl (by decide) (by decide)
     ⟨⟨by omega,qN _ _,⟨_,rfl,Conv.refl _⟩,.inr (by simp),fun h=>by cases h⟩,trivial⟩
     (fun i hi=>by simp at hi;subst hi;exact⟨by omega,_,rfl⟩) (.tup [])
     ((38,_)::(37,_)::(64,.cells [ii r.kind,ii r.up,ii r.down,ii r.shift,ii r.gain,ii r.keep,ii r.fade,ii r.lo,ii r.hi,.v (.bool r.sum)] 36)::(26,.pin plp)::(27,.cells [.ptr 0 0] 64)::(28,.cells [.opq 25] 27)::(0,.cells (qJ (ii tick) inp (fun k=>.mp (8+k)) (.mp 7)) 96)::(1,.rwin 8 N.length (N.flatMap Prm.vals))::(2,.rwin 4 S.length (S.flatMap Syn.vals))::(3,.row 2 N.length (B.1.flatMap Ste.cells) 139)::(4,.rwin 10 rs.length (rs.flatMap Rul.vals))::(5,.rwin 1 pl.length (qD pl))::(6,.row 4 pl.length ((ms.set ix m1).flatMap Mrk.cells) 84)::(7,.kwin true tot)::(8,.kwin false (qA (sm 0)))::(9,.kwin false (qA (sm 1)))::(10,.kwin false (qA (sm 2)))::(11,.kwin false (qA (sm 3)))::(12,.kwin false (qA (sm 4)))::(13,.kwin false (qA (sm 5)))::(14,.kwin false (qA (sm 6)))::(15,.kwin false (qA (sm 7)))::(16,.kwin false (qA (sm 8)))::(17,.kwin false (qA (sm 9)))::(18,.kwin false (qA (sm 10)))::(19,.kwin false (qA (sm 11)))::(20,.kwin false (qA (sm 12)))::(21,.kwin false (qA (sm 13)))::(22,.kwin false (qA (sm 14)))::(23,.kwin false (qA (sm 15)))::(24,.rwin 1 inputs.length (qD inputs))::(25,.rwin 1 rw0.length (qD rw0))::(29,.row 1 pl.length (A.1.map fun b=>.v (.bool b)) 4)::(30,.cells [.opq 29] 150)::(31,.row 1 N.length (A.2.map fun x=>ii x) 3)::(32,.kmap false true (qA B.2.2))::(33,.cells [.mp 32] 89)::(34,.row 1 B.2.1.length (B.2.1.map fun x=>ii x) 3)::(35,.cells [.ptr 0 0] 64)::(36,.pin pl2)::[]) 67 rfl rfl (by repeat first|exact trivial|refine⟨.inr ⟨6,_,rfl,rfl,by simp only[SObj.ren];rw[qY (S:=fun _=>False) (fun i hi=>hi.elim) _ (qN _ _)],rfl⟩,?_⟩|refine⟨.inl ⟨rfl,by simp⟩,?_⟩) ?_
    refine Run.W1 (hc w L' (some (38,l)) (fun q hq=>by obtain rfl:=Option.some.inj hq;exact hl)) ?_
    conv=>whnf
    refine Run.draw (hc w L' (some (38,l)) (fun q hq=>by obtain rfl:=Option.some.inj hq;exact hl)) 25 ?_
    rw[show qG 0 25=qG 0 3++(qG 3 6++(qG 9 5++(qG 14 1++(qG 15 8++qG 23 2))))from rfl]
    simp only[qV]
    conv=>whnf
    rw[uP (v:=.v (.func (.func (kindG r.kind)) #[] #[])) (bs:=[]) rfl rfl rfl rfl (FKind_eq _ r.kind hkd)]
    conv=>whnf
    rw[wK (f:=Mrk.cells) (l:=ms.set ix m1) ix rfl rfl rfl rfl rfl Mrk.clen rfl hm1l,List.getElem_set_self]
    conv=>whnf
    refine⟨by omega,?_⟩
    conv=>whnf
    rw[xW (c:=.v (.bool A.1[ix])) ix rfl rfl rfl rfl (by rw[qQ,Nat.mul_one]) (by rw[List.getElem?_map,List.getElem?_eq_getElem hal];rfl)]
    conv=>whnf
    rw[uP (v:=ii c1) (bs:=[]) rfl rfl rfl rfl (by rw[←hc1];exact FChg_eq ch _ r m1 spk A.1[ix] hsh)]
    conv=>whnf
    refine⟨by omega,?_⟩
    conv=>whnf
    rw[yS ix rfl rfl rfl rfl (by rw[qQ,Nat.mul_one]) (xL hlt)]
    conv=>whnf
    refine⟨by omega,?_⟩
    conv=>whnf
    rw[yS pl[ix].toNat rfl rfl rfl rfl (by rw[j9,Nat.mul_one]) (xL hwl),hrv]
    conv=>whnf
    refine⟨by kernel_rfl,?_⟩
    refine Run.W1 (hc w L' (some (38,l)) (fun q hq=>by obtain rfl:=Option.some.inj hq;exact hl)) ?_
    conv=>whnf
    rw[opF_callN rfl rfl (pfStep_kind ch vd sS sB r.kind) (pfStep_kind2 ch vd sS sB r.kind)]
    conv=>whnf
    refine Run.rF (vs:=[.agg (r.vals.map .v),.ptr 6 (ix*4),ii c1,ii rv]) (caps:=[]) hk2 (kindG_ent _) rfl rfl rfl rfl rfl rfl rfl (by decide) (by decide)
     ⟨⟨by omega,qN _ _,⟨_,rfl,Conv.refl _⟩,.inr (by simp),fun h=>by cases h⟩,trivial⟩
     (fun i hi=>by simp at hi;subst hi;exact⟨by omega,_,rfl⟩) (.tup [])
     ((38,_)::(37,_)::(64,.cells [ii r.kind,ii r.up,ii r.down,ii r.shift,ii r.gain,ii r.keep,ii r.fade,ii r.lo,ii r.hi,.v (.bool r.sum)] 36)::(26,.pin plp)::(27,.cells [.ptr 0 0] 64)::(28,.cells [.opq 25] 27)::(0,.cells (qJ (ii tick) inp (fun k=>.mp (8+k)) (.mp 7)) 96)::(1,.rwin 8 N.length (N.flatMap Prm.vals))::(2,.rwin 4 S.length (S.flatMap Syn.vals))::(3,.row 2 N.length (B.1.flatMap Ste.cells) 139)::(4,.rwin 10 rs.length (rs.flatMap Rul.vals))::(5,.rwin 1 pl.length (qD pl))::(6,.row 4 pl.length ((ms.set ix m2).flatMap Mrk.cells) 84)::(7,.kwin true tot)::(8,.kwin false (qA (sm 0)))::(9,.kwin false (qA (sm 1)))::(10,.kwin false (qA (sm 2)))::(11,.kwin false (qA (sm 3)))::(12,.kwin false (qA (sm 4)))::(13,.kwin false (qA (sm 5)))::(14,.kwin false (qA (sm 6)))::(15,.kwin false (qA (sm 7)))::(16,.kwin false (qA (sm 8)))::(17,.kwin false (qA (sm 9)))::(18,.kwin false (qA (sm 10)))::(19,.kwin false (qA (sm 11)))::(20,.kwin false (qA (sm 12)))::(21,.kwin false (qA (sm 13)))::(22,.kwin false (qA (sm 14)))::(23,.kwin false (qA (sm 15)))::(24,.rwin 1 inputs.length (qD inputs))::(25,.rwin 1 rw0.length (qD rw0))::(29,.row 1 pl.length (A.1.map fun b=>.v (.bool b)) 4)::(30,.cells [.opq 29] 150)::(31,.row 1 N.length (A.2.map fun x=>ii x) 3)::(32,.kmap false true (qA B.2.2))::(33,.cells [.mp 32] 89)::(34,.row 1 B.2.1.length (B.2.1.map fun x=>ii x) 3)::(35,.cells [.ptr 0 0] 64)::(36,.pin pl2)::[]) 93 rfl rfl (by repeat first|exact trivial|refine⟨.inr ⟨6,_,rfl,rfl,by simp only[SObj.ren];rw[qY (S:=fun _=>False) (fun i hi=>hi.elim) _ (qN _ _)],rfl⟩,?_⟩|refine⟨.inl ⟨rfl,by simp⟩,?_⟩) ?_
    refine Run.W1 (hc w L' (some (38,l)) (fun q hq=>by obtain rfl:=Option.some.inj hq;exact hl)) ?_
    conv=>whnf
    refine Run.draw (hc w L' (some (38,l)) (fun q hq=>by obtain rfl:=Option.some.inj hq;exact hl)) 10 ?_
    rw[show qG 0 10=qG 0 5++qG 5 5 from rfl]
    simp only[qV]
    conv=>whnf
    rw[yM (f:=Mrk.cells) (l:=ms.set ix m2) (c:=ii m2.w) ix 0 rfl rfl rfl rfl Mrk.clen rfl (by rw[List.length_set];exact hml) (by decide) (by rw[List.getElem_set_self];rfl)]
    conv=>whnf
    refine⟨by kernel_rfl,?_⟩
    refine Run.W1 (hc w L' (some (38,l)) (fun q hq=>by obtain rfl:=Option.some.inj hq;exact hl)) ?_
    conv=>whnf
    rw[yT (f:=Mrk.cells) (l:=ms.set ix m2) ix 0 ⟨max r.lo (min r.hi m2.w),m2.x,m2.y,m2.e⟩ rfl rfl rfl rfl rfl Mrk.clen rfl (by rw[List.length_set];exact hml) (by decide) rfl rfl (by rw[List.getElem_set_self];rfl),List.set_set]
    conv=>whnf
    refine⟨by omega,?_⟩
    conv=>whnf
    rw[xW (c:=.v (.bool A.1[ix])) ix rfl rfl rfl rfl (by rw[qQ,Nat.mul_one]) (by rw[List.getElem?_map,List.getElem?_eq_getElem hal];rfl)]
    conv=>whnf
    generalize A.1[ix]=ar at e hc1 ⊢
    cases ar
    case false=>
     conv=>whnf
     cases spk
     case false=>
      conv=>whnf
      have e5:pY S rs pl A.1 B.2.2 rw0 m (j+1)=ms.set ix ⟨max r.lo (min r.hi m2.w),m2.x,m2.y,m2.e⟩:=by rw[e];rfl
      refine⟨fun ρ w' hW _=>⟨rfl,ρ,?_⟩⟩
      exact hW.less (r:=id) ⟨AllP.mem (by exact(by repeat first|exact trivial|refine⟨⟨rfl,by omega,Os.h _⟩,?_⟩|refine⟨⟨by rw[qC];rfl,by omega,pnx hcov rfl⟩,?_⟩|refine⟨⟨by rw[qC];rfl,by omega,⟨ltb rfl,trivial⟩⟩,?_⟩|refine⟨⟨by rw[qC];rfl,by omega,SV.s7 (by decide) hsc⟩,?_⟩|refine⟨⟨by rw[qC];rfl,by omega,trivial⟩,?_⟩|refine⟨⟨by rw[qC];rfl,by omega,qS _ _⟩,?_⟩|refine⟨⟨by rw[qC,e5];rfl,by omega,Os.h _⟩,?_⟩|refine⟨⟨by rw[qC];rfl,by omega,xY _ _⟩,?_⟩|refine⟨⟨by rw[qC];rfl,by omega,Os.h _⟩,?_⟩|refine⟨⟨by rw[qC];rfl,by omega,fun p hp=>Nat.lt_of_lt_of_le (hcov2.1 p hp) (show 36≤39 by decide)⟩,?_⟩)),fun _ _ _ _ h=>h,fun q hq=>⟨rfl,hlid q hq⟩⟩
     conv=>whnf
     refine Run.draw (hc w L' (some (38,l)) (fun q hq=>by obtain rfl:=Option.some.inj hq;exact hl)) 9 ?_
     rw[show qG 0 9=qG 0 5++qG 5 4 from rfl]
     simp only[qV]
     conv=>whnf
     rw[yM (f:=Mrk.cells) (l:=ms.set ix ⟨max r.lo (min r.hi m2.w),m2.x,m2.y,m2.e⟩) (c:=ii m2.y) ix 2 rfl rfl rfl rfl Mrk.clen rfl (by rw[List.length_set];exact hml) (by decide) (by rw[List.getElem_set_self];rfl)]
     conv=>whnf
     refine⟨by kernel_rfl,?_⟩
     refine Run.W1 (hc w L' (some (38,l)) (fun q hq=>by obtain rfl:=Option.some.inj hq;exact hl)) ?_
     conv=>whnf
     rw[yT (f:=Mrk.cells) (l:=ms.set ix ⟨max r.lo (min r.hi m2.w),m2.x,m2.y,m2.e⟩) ix 2 ⟨max r.lo (min r.hi m2.w),m2.x,min 65535 (W (m2.y+r.gain)),m2.e⟩ rfl rfl rfl rfl rfl Mrk.clen rfl (by rw[List.length_set];exact hml) (by decide) rfl rfl (by rw[List.getElem_set_self];rfl),List.set_set]
     conv=>whnf
     have e5:pY S rs pl A.1 B.2.2 rw0 m (j+1)=ms.set ix ⟨max r.lo (min r.hi m2.w),m2.x,min 65535 (W (m2.y+r.gain)),m2.e⟩:=by rw[e];rfl
     refine⟨fun ρ w' hW _=>⟨rfl,ρ,?_⟩⟩
     exact hW.less (r:=id) ⟨AllP.mem (by exact(by repeat first|exact trivial|refine⟨⟨rfl,by omega,Os.h _⟩,?_⟩|refine⟨⟨by rw[qC];rfl,by omega,pnx hcov rfl⟩,?_⟩|refine⟨⟨by rw[qC];rfl,by omega,⟨ltb rfl,trivial⟩⟩,?_⟩|refine⟨⟨by rw[qC];rfl,by omega,SV.s7 (by decide) hsc⟩,?_⟩|refine⟨⟨by rw[qC];rfl,by omega,trivial⟩,?_⟩|refine⟨⟨by rw[qC];rfl,by omega,qS _ _⟩,?_⟩|refine⟨⟨by rw[qC,e5];rfl,by omega,Os.h _⟩,?_⟩|refine⟨⟨by rw[qC];rfl,by omega,xY _ _⟩,?_⟩|refine⟨⟨by rw[qC];rfl,by omega,Os.h _⟩,?_⟩|refine⟨⟨by rw[qC];rfl,by omega,fun p hp=>Nat.lt_of_lt_of_le (hcov2.1 p hp) (show 36≤39 by decide)⟩,?_⟩)),fun _ _ _ _ h=>h,fun q hq=>⟨rfl,hlid q hq⟩⟩
    conv=>whnf
    refine Run.draw (hc w L' (some (38,l)) (fun q hq=>by obtain rfl:=Option.some.inj hq;exact hl)) 9 ?_
    rw[show qG 0 9=qG 0 5++qG 5 4 from rfl]
    simp only[qV]
    conv=>whnf
    rw[yM (f:=Mrk.cells) (l:=ms.set ix ⟨max r.lo (min r.hi m2.w),m2.x,m2.y,m2.e⟩) (c:=ii m2.x) ix 1 rfl rfl rfl rfl Mrk.clen rfl (by rw[List.length_set];exact hml) (by decide) (by rw[List.getElem_set_self];rfl)]
    conv=>whnf
    refine⟨by kernel_rfl,?_⟩
    refine Run.W1 (hc w L' (some (38,l)) (fun q hq=>by obtain rfl:=Option.some.inj hq;exact hl)) ?_
    conv=>whnf
    rw[yT (f:=Mrk.cells) (l:=ms.set ix ⟨max r.lo (min r.hi m2.w),m2.x,m2.y,m2.e⟩) ix 1 ⟨max r.lo (min r.hi m2.w),min 65535 (W (m2.x+r.gain)),m2.y,m2.e⟩ rfl rfl rfl rfl rfl Mrk.clen rfl (by rw[List.length_set];exact hml) (by decide) rfl rfl (by rw[List.getElem_set_self];rfl),List.set_set]
    conv=>whnf
    cases spk
    case false=>
     conv=>whnf
     have e5:pY S rs pl A.1 B.2.2 rw0 m (j+1)=ms.set ix ⟨max r.lo (min r.hi m2.w),min 65535 (W (m2.x+r.gain)),m2.y,m2.e⟩:=by rw[e];rfl
     refine⟨fun ρ w' hW _=>⟨rfl,ρ,?_⟩⟩
     exact hW.less (r:=id) ⟨AllP.mem (by exact(by repeat first|exact trivial|refine⟨⟨rfl,by omega,Os.h _⟩,?_⟩|refine⟨⟨by rw[qC];rfl,by omega,pnx hcov rfl⟩,?_⟩|refine⟨⟨by rw[qC];rfl,by omega,⟨ltb rfl,trivial⟩⟩,?_⟩|refine⟨⟨by rw[qC];rfl,by omega,SV.s7 (by decide) hsc⟩,?_⟩|refine⟨⟨by rw[qC];rfl,by omega,trivial⟩,?_⟩|refine⟨⟨by rw[qC];rfl,by omega,qS _ _⟩,?_⟩|refine⟨⟨by rw[qC,e5];rfl,by omega,Os.h _⟩,?_⟩|refine⟨⟨by rw[qC];rfl,by omega,xY _ _⟩,?_⟩|refine⟨⟨by rw[qC];rfl,by omega,Os.h _⟩,?_⟩|refine⟨⟨by rw[qC];rfl,by omega,fun p hp=>Nat.lt_of_lt_of_le (hcov2.1 p hp) (show 36≤39 by decide)⟩,?_⟩)),fun _ _ _ _ h=>h,fun q hq=>⟨rfl,hlid q hq⟩⟩
    conv=>whnf
    refine Run.draw (hc w L' (some (38,l)) (fun q hq=>by obtain rfl:=Option.some.inj hq;exact hl)) 9 ?_
    rw[show qG 0 9=qG 0 5++qG 5 4 from rfl]
    simp only[qV]
    conv=>whnf
    rw[yM (f:=Mrk.cells) (l:=ms.set ix ⟨max r.lo (min r.hi m2.w),min 65535 (W (m2.x+r.gain)),m2.y,m2.e⟩) (c:=ii m2.y) ix 2 rfl rfl rfl rfl Mrk.clen rfl (by rw[List.length_set];exact hml) (by decide) (by rw[List.getElem_set_self];rfl)]
    conv=>whnf
    refine⟨by kernel_rfl,?_⟩
    refine Run.W1 (hc w L' (some (38,l)) (fun q hq=>by obtain rfl:=Option.some.inj hq;exact hl)) ?_
    conv=>whnf
    rw[yT (f:=Mrk.cells) (l:=ms.set ix ⟨max r.lo (min r.hi m2.w),min 65535 (W (m2.x+r.gain)),m2.y,m2.e⟩) ix 2 ⟨max r.lo (min r.hi m2.w),min 65535 (W (m2.x+r.gain)),min 65535 (W (m2.y+r.gain)),m2.e⟩ rfl rfl rfl rfl rfl Mrk.clen rfl (by rw[List.length_set];exact hml) (by decide) rfl rfl (by rw[List.getElem_set_self];rfl),List.set_set]
    conv=>whnf
    have e5:pY S rs pl A.1 B.2.2 rw0 m (j+1)=ms.set ix ⟨max r.lo (min r.hi m2.w),min 65535 (W (m2.x+r.gain)),min 65535 (W (m2.y+r.gain)),m2.e⟩:=by rw[e];rfl
    refine⟨fun ρ w' hW _=>⟨rfl,ρ,?_⟩⟩
    exact hW.less (r:=id) ⟨AllP.mem (by exact(by repeat first|exact trivial|refine⟨⟨rfl,by omega,Os.h _⟩,?_⟩|refine⟨⟨by rw[qC];rfl,by omega,pnx hcov rfl⟩,?_⟩|refine⟨⟨by rw[qC];rfl,by omega,⟨ltb rfl,trivial⟩⟩,?_⟩|refine⟨⟨by rw[qC];rfl,by omega,SV.s7 (by decide) hsc⟩,?_⟩|refine⟨⟨by rw[qC];rfl,by omega,trivial⟩,?_⟩|refine⟨⟨by rw[qC];rfl,by omega,qS _ _⟩,?_⟩|refine⟨⟨by rw[qC,e5];rfl,by omega,Os.h _⟩,?_⟩|refine⟨⟨by rw[qC];rfl,by omega,xY _ _⟩,?_⟩|refine⟨⟨by rw[qC];rfl,by omega,Os.h _⟩,?_⟩|refine⟨⟨by rw[qC];rfl,by omega,fun p hp=>Nat.lt_of_lt_of_le (hcov2.1 p hp) (show 36≤39 by decide)⟩,?_⟩)),fun _ _ _ _ h=>h,fun q hq=>⟨rfl,hlid q hq⟩⟩
   ·intro L' a d hwid hd hLp
    have hlid :∀p∈L',p.1<39:=fun p hp=>by
     rcases hLp p hp with h|h|h
     ·omega
     ·omega
     ·have:=hLB p h;omega
    have hall:pY S rs pl A.1 B.2.2 rw0 m (uB ((envPl pl2).s 6) ((envPl pl2).o 6) pl).length=pL S rs pl A.1 B.2.2 rw0 m:=by
     unfold pY pL
     rw[xJ,List.length_map,List.take_length]
    have hmlen:(pL S rs pl A.1 B.2.2 rw0 m).length=S.length:=by unfold pL;rw[wL];exact hm
    dsimp only
    rw[hall]
    generalize pL S rs pl A.1 B.2.2 rw0 m=mm at hok hm' hmlen ⊢
    refine Run.W1 (hc w L' none (fun q hq=>by cases hq)) ?_
    conv=>whnf
    refine Run.rF (vs:=[.ptr 0 0]) (caps:=[]) (restore_spec (ii tick) inp (fun k=>.mp (8+k)) S rs pl tot mm m' hsc hpl hmlen hp1 hlS hti hok hm') (ent _ _ Try.func83 (by kernel_rfl) rfl) rfl rfl rfl rfl rfl rfl rfl (by decide) (by decide) (by repeat first|exact trivial|refine⟨⟨by omega,hsc,⟨_,rfl,Conv.refl _⟩,.inr (by simp),fun h=>by cases h⟩,?_⟩|refine⟨⟨by omega,trivial,⟨_,rfl,Conv.refl _⟩,.inl rfl,fun _=>by simp⟩,?_⟩|refine⟨⟨by omega,qN _ _,⟨_,rfl,Conv.refl _⟩,.inr (by simp),fun h=>by cases h⟩,?_⟩)
     (fun i hi=>by simp at hi;rcases hi with rfl|rfl<;>exact⟨by omega,_,rfl⟩) (.tup [])
     ((37,_)::(26,.pin plp)::(27,.cells [.ptr 0 0] 64)::(0,.cells (qJ (ii tick) inp (fun k=>.mp (8+k)) (.mp 7)) 96)::(1,.rwin 8 N.length (N.flatMap Prm.vals))::(2,.rwin 4 S.length (S.flatMap Syn.vals))::(3,.row 2 N.length (B.1.flatMap Ste.cells) 139)::(4,.rwin 10 rs.length (rs.flatMap Rul.vals))::(5,.rwin 1 pl.length (qD pl))::(6,.row 4 pl.length (m'.flatMap Mrk.cells) 84)::(7,.kwin true tot)::(8,.kwin false (qA (sm 0)))::(9,.kwin false (qA (sm 1)))::(10,.kwin false (qA (sm 2)))::(11,.kwin false (qA (sm 3)))::(12,.kwin false (qA (sm 4)))::(13,.kwin false (qA (sm 5)))::(14,.kwin false (qA (sm 6)))::(15,.kwin false (qA (sm 7)))::(16,.kwin false (qA (sm 8)))::(17,.kwin false (qA (sm 9)))::(18,.kwin false (qA (sm 10)))::(19,.kwin false (qA (sm 11)))::(20,.kwin false (qA (sm 12)))::(21,.kwin false (qA (sm 13)))::(22,.kwin false (qA (sm 14)))::(23,.kwin false (qA (sm 15)))::(24,.rwin 1 inputs.length (qD inputs))::(32,.kmap false true (qA B.2.2))::(33,.cells [.mp 32] 89)::(34,.row 1 B.2.1.length (B.2.1.map fun x=>ii x) 3)::[]) 39 rfl rfl (by repeat first|exact trivial|refine⟨.inr ⟨0,_,rfl,rfl,by simp only[SObj.ren];rw[qY (fun i hi=>x5 i hi) _ (SV.s7 (by decide) hsc)],rfl⟩,?_⟩|refine⟨.inr ⟨6,_,rfl,rfl,by simp only[SObj.ren];rw[qY (S:=fun _=>False) (fun i hi=>hi.elim) _ (qN _ _)],rfl⟩,?_⟩|refine⟨.inl ⟨rfl,by simp⟩,?_⟩) ?_
    refine Run.W1 (hc w L' none (fun q hq=>by cases hq)) ?_
    conv=>whnf
    refine Run.s6 (T':=[(3,.ptr 27 0),(11,.ptr 33 0),(12,.opq 34),(242,.opq 24),(243,ii (inputs.length:Int)),(244,ii ((0:Nat):Int))]) (M':=((37,.obj (.deferred (some [])))::(26,.pin plp)::(27,.cells [.ptr 0 0] 64)::(0,.cells (qJ (ii tick) inp (fun k=>.mp (8+k)) (.mp 7)) 96)::(1,.rwin 8 N.length (N.flatMap Prm.vals))::(2,.rwin 4 S.length (S.flatMap Syn.vals))::(3,.row 2 N.length (B.1.flatMap Ste.cells) 139)::(4,.rwin 10 rs.length (rs.flatMap Rul.vals))::(5,.rwin 1 pl.length (qD pl))::(6,.row 4 pl.length (m'.flatMap Mrk.cells) 84)::(7,.kwin true tot)::(8,.kwin false (qA (sm 0)))::(9,.kwin false (qA (sm 1)))::(10,.kwin false (qA (sm 2)))::(11,.kwin false (qA (sm 3)))::(12,.kwin false (qA (sm 4)))::(13,.kwin false (qA (sm 5)))::(14,.kwin false (qA (sm 6)))::(15,.kwin false (qA (sm 7)))::(16,.kwin false (qA (sm 8)))::(17,.kwin false (qA (sm 9)))::(18,.kwin false (qA (sm 10)))::(19,.kwin false (qA (sm 11)))::(20,.kwin false (qA (sm 12)))::(21,.kwin false (qA (sm 13)))::(22,.kwin false (qA (sm 14)))::(23,.kwin false (qA (sm 15)))::(24,.rwin 1 inputs.length (qD inputs))::(32,.kmap false true (qA (sendY B.2.2 inputs (0:Nat))))::(33,.cells [.mp 32] 89)::(34,.row 1 B.2.1.length (B.2.1.map fun x=>ii x) 3)::[])) 39 ?_ ?_ hlid ?_
    ·exact⟨⟨rfl,ltb rfl⟩,⟨rfl,ltb rfl⟩,⟨rfl,ltb rfl⟩,⟨rfl,ltb rfl⟩,⟨rfl,trivial⟩,⟨rfl,trivial⟩,trivial⟩
    ·exact(by repeat first|exact trivial|refine⟨⟨rfl,ltb rfl,trivial⟩,?_⟩|refine⟨⟨rfl,ltb rfl,pnx hcov rfl⟩,?_⟩|refine⟨⟨rfl,ltb rfl,⟨ltb rfl,trivial⟩⟩,?_⟩|refine⟨⟨rfl,ltb rfl,SV.s7 (by decide) hsc⟩,?_⟩|refine⟨⟨rfl,ltb rfl,qS _ _⟩,?_⟩|refine⟨⟨rfl,ltb rfl,qN _ _⟩,?_⟩|refine⟨⟨by rfl,by omega,trivial⟩,?_⟩|refine⟨⟨rfl,ltb rfl,qB _ _⟩,?_⟩)
    refine Run.rD (T:=fun i=>[(3,.ptr 27 0),(11,.ptr 33 0),(12,.opq 34),(242,.opq 24),(243,ii (inputs.length:Int)),(244,ii (i:Int))]) (M:=fun i=>((37,.obj (.deferred (some [])))::(26,.pin plp)::(27,.cells [.ptr 0 0] 64)::(0,.cells (qJ (ii tick) inp (fun k=>.mp (8+k)) (.mp 7)) 96)::(1,.rwin 8 N.length (N.flatMap Prm.vals))::(2,.rwin 4 S.length (S.flatMap Syn.vals))::(3,.row 2 N.length (B.1.flatMap Ste.cells) 139)::(4,.rwin 10 rs.length (rs.flatMap Rul.vals))::(5,.rwin 1 pl.length (qD pl))::(6,.row 4 pl.length (m'.flatMap Mrk.cells) 84)::(7,.kwin true tot)::(8,.kwin false (qA (sm 0)))::(9,.kwin false (qA (sm 1)))::(10,.kwin false (qA (sm 2)))::(11,.kwin false (qA (sm 3)))::(12,.kwin false (qA (sm 4)))::(13,.kwin false (qA (sm 5)))::(14,.kwin false (qA (sm 6)))::(15,.kwin false (qA (sm 7)))::(16,.kwin false (qA (sm 8)))::(17,.kwin false (qA (sm 9)))::(18,.kwin false (qA (sm 10)))::(19,.kwin false (qA (sm 11)))::(20,.kwin false (qA (sm 12)))::(21,.kwin false (qA (sm 13)))::(22,.kwin false (qA (sm 14)))::(23,.kwin false (qA (sm 15)))::(24,.rwin 1 inputs.length (qD inputs))::(32,.kmap false true (qA (sendY B.2.2 inputs i)))::(33,.cells [.mp 32] 89)::(34,.row 1 B.2.1.length (B.2.1.map fun x=>ii x) 3)::[])) (fun _=>True) (inputs.length) trivial ?_ ?_
    ·intro i hi hJ ih
     refine Run.W1 (hc w L' none (fun q hq=>by cases hq)) ?_
     conv=>whnf
     rw[decide_eq_true (show((i:Nat):Int)<(inputs.length:Int)by omega)]
     conv=>whnf
     have es:=sendY_succ B.2.2 inputs hi
     refine⟨by omega,?_⟩
     conv=>whnf
     rw[yS i rfl rfl rfl rfl (by rw[qQ,Nat.mul_one]) (xL hi)]
     conv=>whnf
     refine Run.tH (ih trivial) ?_ ?_ hlid
     ·exact⟨⟨rfl,ltb rfl⟩,⟨rfl,ltb rfl⟩,⟨rfl,ltb rfl⟩,⟨rfl,ltb rfl⟩,⟨rfl,trivial⟩,⟨wsx (by omega),trivial⟩,trivial⟩
     ·exact(by repeat first|exact trivial|refine⟨⟨rfl,ltb rfl,trivial⟩,?_⟩|refine⟨⟨rfl,ltb rfl,pnx hcov rfl⟩,?_⟩|refine⟨⟨rfl,ltb rfl,⟨ltb rfl,trivial⟩⟩,?_⟩|refine⟨⟨rfl,ltb rfl,SV.s7 (by decide) hsc⟩,?_⟩|refine⟨⟨rfl,ltb rfl,qS _ _⟩,?_⟩|refine⟨⟨rfl,ltb rfl,qN _ _⟩,?_⟩|refine⟨⟨rfl,ltb rfl,qB _ _⟩,?_⟩|refine⟨⟨by rw[es];exact congrArg some (congrArg (SObj.kmap false true) (t8 _ _)),by omega,trivial⟩,?_⟩)
    ·intro hJ
     refine Run.W1 (hc w L' none (fun q hq=>by cases hq)) ?_
     conv=>whnf
     rw[decide_eq_false (show ¬((inputs.length:Nat):Int)<(inputs.length:Int)by omega)]
     conv=>whnf
     rw[show sendY B.2.2 inputs inputs.length=x9 B.2.2 inputs by unfold sendY;rw[List.take_length]]
     refine Run.draw (hc w L' none (fun q hq=>by cases hq)) 11 ?_
     rw[show qG 0 11=qG 0 7++qG 7 4 from rfl]
     simp only[qV]
     conv=>whnf
     refine⟨by decide,?_⟩
     rw[gZ htick0]
     have hk16:=yI (t:=tick)
     generalize zE tick=k at hk16 ⊢
     conv=>whnf
     refine⟨by kernel_rfl,?_⟩
     refine Run.W1 (hc w L' none (fun q hq=>by cases hq)) ?_
     conv=>whnf
     refine⟨by omega,?_⟩
     conv=>whnf
     rw[opF_storeC (v:=.mp 32) rfl rfl rfl rfl rfl rfl rfl (qJ (ii tick) inp (fun j=>.mp (if j=k then 32 else 8+j)) (.mp 7)) (by rw[qQ];rcases lt16 hk16 with rfl|rfl|rfl|rfl|rfl|rfl|rfl|rfl|rfl|rfl|rfl|rfl|rfl|rfl|rfl|rfl<;>rfl)]
     conv=>whnf
     have hrq :∀i,i<24→rq [(39,32),(32,39),(40,34),(34,40)] i=i:=fun i hi=>zG (vU rfl hi)
     refine Run.rC (rq [(39,32),(32,39),(40,34),(34,40)]) 41 ?_ (T':=[(6,.opq 40)]) (M':=[(37,.obj (.deferred (some []))),(26,.pin plp),(39,.kmap false true (qA (x9 B.2.2 inputs))),(40,.row 1 B.2.1.length (B.2.1.map fun x=>ii x) 3),(0,.cells (qJ (ii (W (tick+1))) inp (fun j=>.mp (if j=k then 39 else 8+j)) (.mp 7)) 96),(1,.rwin 8 N.length (N.flatMap Prm.vals)),(2,.rwin 4 S.length (S.flatMap Syn.vals)),(3,.row 2 N.length (B.1.flatMap Ste.cells) 139),(4,.rwin 10 rs.length (rs.flatMap Rul.vals)),(5,.rwin 1 pl.length (qD pl)),(6,.row 4 pl.length (m'.flatMap Mrk.cells) 84),(7,.kwin true tot),(8,.kwin false (qA (sm 0))),(9,.kwin false (qA (sm 1))),(10,.kwin false (qA (sm 2))),(11,.kwin false (qA (sm 3))),(12,.kwin false (qA (sm 4))),(13,.kwin false (qA (sm 5))),(14,.kwin false (qA (sm 6))),(15,.kwin false (qA (sm 7))),(16,.kwin false (qA (sm 8))),(17,.kwin false (qA (sm 9))),(18,.kwin false (qA (sm 10))),(19,.kwin false (qA (sm 11))),(20,.kwin false (qA (sm 12))),(21,.kwin false (qA (sm 13))),(22,.kwin false (qA (sm 14))),(23,.kwin false (qA (sm 15)))]) ⟨⟨rfl,ltb rfl⟩,trivial⟩ ?_ ?_ ?_
     ·intro i hi j hj hne he
      have inv :∀i,i<41→rq [(39,32),(32,39),(40,34),(34,40)] (rq [(39,32),(32,39),(40,34),(34,40)] i)=i:=by decide
      exact hne (by rw[←inv i hi,he,inv j hj])
     ·exact(by repeat first|exact trivial|refine⟨⟨rfl,by omega,Os.h _⟩,?_⟩|refine⟨⟨congrArg some (jK hcov (fun i hi=>zG (zA (B:=26) rfl hi))).symm,by omega,pnx hcov rfl⟩,?_⟩|refine⟨⟨congrArg some (ofx (o:=.row 1 B.2.1.length (B.2.1.map fun x=>ii x) 3) (qB _ _)).symm,by omega,Os.h _⟩,?_⟩|refine⟨⟨by simp only[SObj.ren];rw[lcells_ren hrq];rfl,by omega,lcells_sc (fun i hi=>Nat.lt_of_lt_of_le hi (show 24≤41 by decide)) _ _ _ _ (by decide)⟩,?_⟩|refine⟨⟨congrArg some (ofx (o:=.row 2 N.length (B.1.flatMap Ste.cells) 139) (qS _ _)).symm,by omega,qS _ _⟩,?_⟩|refine⟨⟨congrArg some (ofx (o:=.row 4 pl.length (m'.flatMap Mrk.cells) 84) (qN _ _)).symm,by omega,Os.h _⟩,?_⟩)
     ·intro p hp
      rcases hLp p hp with h|h|h
      ·rw[h];exact⟨rfl,by decide⟩
      ·rw[h];exact⟨rfl,by decide⟩
      ·have:=hLB p h;exact⟨zG (zA (B:=26) rfl this),by omega⟩
     refine Run.retD (hc w L' none (fun q hq=>by cases hq)) rfl 37 d hd rfl (.inr ⟨_,rfl⟩) rfl ?_
     refine SpecR.rS 39 (by decide) hwid hLB (by decide) hcov rfl rfl (show 27<28 by decide) ?_
     simp only[stepM,List.cons_append,List.nil_append]
     exact(by repeat first|exact trivial|refine⟨⟨rfl,by omega,Os.h _⟩,?_⟩|refine⟨⟨congrArg some (ofx (o:=.row 1 B.2.1.length (B.2.1.map fun x=>ii x) 3) (qB _ _)).symm,by omega,Os.h _⟩,?_⟩|refine⟨⟨by simp only[SObj.ren];rw[lcells_ren (fun i hi=>x5 i (Nat.lt_trans hi (by decide)))];rfl,by omega,lcells_sc (fun i hi=>Nat.lt_of_lt_of_le hi (show 24≤28 by decide)) _ _ _ _ (by decide)⟩,?_⟩|refine⟨⟨congrArg some (ofx (o:=.row 2 N.length (B.1.flatMap Ste.cells) 139) (qS _ _)).symm,by omega,qS _ _⟩,?_⟩|refine⟨⟨congrArg some (ofx (o:=.row 4 pl.length (m'.flatMap Mrk.cells) 84) (qN _ _)).symm,by omega,Os.h _⟩,?_⟩)
end Go.Proofs.Ytnnlpdgnlccbjaa
namespace Go.Proofs.Ytnnlpdgnlccbjaa
open Go.Sx
instance (l:List Ste):Vs (l.flatMap Ste.cells):=⟨fun S=>qS S l⟩
end Go.Proofs.Ytnnlpdgnlccbjaa
namespace Go.Proofs.Ytnnlpdgnlccbjaa
open Go.Sx
instance (l:List Bool):Vs (l.map fun b=>SV.v (.bool b)):=⟨fun S=>xY S l⟩
set_option maxRecDepth 100000
set_option maxHeartbeats 2000000
def wAt (m:List Mrk)(i:Nat):Int:=(m.getD i qW).w
def jM:List Nat→List Mrk→Int
 | [],_=>0
 |i::g,m=>wAt m i+jM g m
def gcon:List Nat→Int→Int
 | [],_=>0
 |_::g,c=>c+gcon g c
theorem vY :∀{g:List Nat} {m m':List Mrk},(∀i∈g,wAt m i=wAt m' i)→jM g m=jM g m'
 | [],_,_,_=>rfl
 |i::g,m,m',h=>by
  unfold jM
  rw[h i (List.mem_cons_self ..),vY fun j hj=>h j (List.mem_cons_of_mem _ hj)]
theorem wR :∀{g:List Nat} {m:List Mrk} {lo hi:Int},(∀i∈g,lo≤wAt m i∧wAt m i≤hi)→gcon g lo≤jM g m∧jM g m≤gcon g hi
 | [],_,_,_,_=>⟨Int.le_refl _,Int.le_refl _⟩
 |i::g,m,lo,hi,h=>by
  have h1:=h i (List.mem_cons_self ..)
  have h2:=wR fun j hj=>h j (List.mem_cons_of_mem _ hj)
  unfold jM gcon
  omega
theorem gsum_const :∀{g:List Nat} {m:List Mrk} {c:Int},(∀i∈g,wAt m i=c)→jM g m=gcon g c
 | [],_,_,_=>rfl
 |i::g,m,c,h=>by
  unfold jM gcon
  rw[h i (List.mem_cons_self ..),gsum_const fun j hj=>h j (List.mem_cons_of_mem _ hj)]
theorem gcon_abs :∀{g:List Nat} {c:Int},-255≤c→c≤255 → -255*(g.length:Int)≤gcon g c∧gcon g c≤255*(g.length:Int)
 | [],_,_,_=>by simp[gcon]
 |i::g,c,h1,h2=>by
  have:=gcon_abs (g:=g) h1 h2
  unfold gcon
  simp only[List.length_cons]
  omega
theorem uN {m:List Mrk}{i j:Nat}{a:Mrk}(hi:i<m.length):(m.set i a).getD j qW=if i=j then a else m.getD j qW:=by
 simp only[List.getD_eq_getElem?_getD,List.getElem?_set]
 by_cases h:i=j
 ·subst h;simp[hi]
 ·simp[h]
def jY (to by_:Int)(x:Int×List Mrk)(i:Nat):Int×List Mrk:=
 if x.1≠0∧wAt x.2 i≠to then(W (x.1-by_),x.2.set i { x.2.getD i qW with w:=W (wAt x.2 i+by_) })else x
def grp (S:List Syn)(pl:List Int)(r p:Int):List Nat:=(zD pl).filter fun i=>decide (pl.getD i (-1)=r∧(S.getD i zC).to=p)
theorem rdFold_grp (S:List Syn)(pl:List Int)(r p to by_:Int) :∀(l:List Nat) (x:Int×List Mrk),l.foldl (kZ S pl r p to by_) x=(l.filter fun i=>decide (pl.getD i (-1)=r∧(S.getD i zC).to=p)).foldl (jY to by_) x
 | [],_=>rfl
 |i::l,x=>by
  rw[List.foldl_cons,rdFold_grp S pl r p to by_ l]
  by_cases h:pl.getD i (-1)=r∧(S.getD i zC).to=p
  ·rw[List.filter_cons_of_pos (by simpa using h),List.foldl_cons]
   congr 1
   unfold kZ jY wAt
   simp only[h.1,h.2,true_and]
  ·rw[List.filter_cons_of_neg (by simpa using h)]
   congr 1
   unfold kZ
   rw[if_neg fun hh=>h ⟨hh.2.1,hh.2.2.1⟩]
theorem rdL_grp (S:List Syn)(pl:List Int)(r p to by_:Int)(x:Int×List Mrk):rdL S pl r p to by_ x=(grp S pl r p).foldl (jY to by_) x:=rdFold_grp ..
theorem sQ (pl:List Int):(zD pl).Nodup:=List.Nodup.sublist List.filter_sublist List.nodup_range
theorem grp_nodup (S:List Syn)(pl:List Int)(r p:Int):(grp S pl r p).Nodup:=List.Nodup.sublist List.filter_sublist (sQ pl)
theorem grp_mem {S:List Syn}{pl:List Int}{r p:Int}{i:Nat}:i∈grp S pl r p↔i∈zD pl∧pl.getD i (-1)=r∧(S.getD i zC).to=p:=by
 simp[grp,List.mem_filter]
theorem plIdx_lt {pl:List Int}{i:Nat}(h:i∈zD pl):i<pl.length:=(uQ h).1
theorem grp_len (S:List Syn)(pl:List Int)(r p:Int):(grp S pl r p).length≤pl.length:=by
 have h1:=List.length_filter_le (fun i=>decide (pl.getD i (-1)=r∧(S.getD i zC).to=p)) (zD pl)
 have h2:=List.length_filter_le (fun i=>decide (0≤pl.getD i (-1))) (List.range pl.length)
 rw[List.length_range]at h2
 exact Nat.le_trans h1 h2
structure RdP (g:List Nat) (lo hi s:Int) (x y:Int×List Mrk):Prop where
 len:y.2.length=x.2.length
 pos:0≤s*y.1
 sum:y.1+jM g y.2=x.1+jM g x.2
 inb :∀i∈g,lo≤wAt y.2 i∧wAt y.2 i≤hi
 out :∀i,i∉g→y.2.getD i qW=x.2.getD i qW
 fld :∀i,y.2.getD i qW={ x.2.getD i qW with w:=wAt y.2 i }
 le:s*y.1≤s*x.1
theorem round_p {lo hi s to:Int}(hlo : -255≤lo)(hhi:hi≤255)(hs:(s=1∧to=hi)∨(s = -1∧to=lo)) :∀(g:List Nat) (x:Int×List Mrk),g.Nodup→(∀i∈g,i<x.2.length)→(∀i∈g,lo≤wAt x.2 i∧wAt x.2 i≤hi)→0≤s*x.1→s*x.1≤1000000000 →
  RdP g lo hi s x (g.foldl (jY to s) x)∧(0<s*x.1→(∃i∈g,wAt x.2 i≠to)→s*(g.foldl (jY to s) x).1<s*x.1)
 | [],x,_,_,_,h0,_=>⟨⟨rfl,h0,rfl,(fun i h=>absurd h (by simp)),fun _ _=>rfl,fun _=>rfl,Int.le_refl _⟩,fun _ ⟨_,h,_⟩=>absurd h (by simp)⟩
 |i::g,x,hn,hl,hb,h0,h1=>by
  obtain⟨hni,hn⟩:=List.nodup_cons.1 hn
  have hil:=hl i (List.mem_cons_self ..)
  have hbi:=hb i (List.mem_cons_self ..)
  rw[List.foldl_cons]
  by_cases hc:x.1≠0∧wAt x.2 i≠to
  ·have hx:jY to s x i=(x.1-s,x.2.set i { x.2.getD i qW with w:=wAt x.2 i+s }):=by
    unfold jY
    rw[if_pos hc,zL (by rcases hs with⟨rfl,rfl⟩|⟨rfl,rfl⟩<;>omega) (by rcases hs with⟨rfl,rfl⟩|⟨rfl,rfl⟩<;>omega),zL (by rcases hs with⟨rfl,rfl⟩|⟨rfl,rfl⟩<;>omega) (by rcases hs with⟨rfl,rfl⟩|⟨rfl,rfl⟩<;>omega)]
   rw[hx]
   have hw :∀j,wAt (x.2.set i { x.2.getD i qW with w:=wAt x.2 i+s }) j=if i=j then wAt x.2 i+s else wAt x.2 j:=fun j=>by
    unfold wAt
    rw[uN hil]
    split<;>rfl
   have hwg :∀j∈g,wAt (x.2.set i { x.2.getD i qW with w:=wAt x.2 i+s }) j=wAt x.2 j:=fun j hj=>by
    rw[hw,if_neg (fun e:i=j=>hni (by rw[e];exact hj))]
   obtain⟨ih,_⟩:=round_p hlo hhi hs g (x.1-s,x.2.set i { x.2.getD i qW with w:=wAt x.2 i+s }) hn (fun j hj=>by rw[List.length_set];exact hl j (List.mem_cons_of_mem _ hj)) (fun j hj=>by rw[hwg j hj];exact hb j (List.mem_cons_of_mem _ hj))
    (by rcases hs with⟨rfl,rfl⟩|⟨rfl,rfl⟩<;>simp only[]<;>omega) (by rcases hs with⟨rfl,rfl⟩|⟨rfl,rfl⟩<;>simp only[]<;>omega)
   generalize List.foldl (jY to s) (x.1-s,x.2.set i { x.2.getD i qW with w:=wAt x.2 i+s }) g=y at ih ⊢
   obtain⟨a1,a2,a3,a4,a5,a6,a7⟩:=ih
   have hyi:wAt y.2 i=wAt x.2 i+s:=by
    have:=a5 i hni
    rw[uN hil,if_pos rfl]at this
    unfold wAt
    rw[this];rfl
   refine⟨⟨by rw[a1,List.length_set],a2,?_,fun j hj=> ?_,fun j hj=> ?_,fun j=> ?_,?_⟩,fun hp _=> ?_⟩
   ·simp only[jM]
    rw[hyi]
    rw[vY hwg]at a3
    simp only at a3
    omega
   ·rcases List.mem_cons.1 hj with rfl|hj
    ·rw[hyi]
     rcases hs with⟨rfl,rfl⟩|⟨rfl,rfl⟩<;>omega
    ·exact a4 j hj
   ·have h1:j≠i:=fun e=>hj (e▸List.mem_cons_self ..)
    have h2:j∉g:=fun e=>hj (List.mem_cons_of_mem _ e)
    rw[a5 j h2,uN hil,if_neg (Ne.symm h1)]
   ·rw[a6 j,uN hil]
    split
    ·rename_i e;subst e;rfl
    ·rfl
   ·simp only at a7
    rcases hs with⟨rfl,rfl⟩|⟨rfl,rfl⟩<;>omega
   ·simp only at a7
    rcases hs with⟨rfl,rfl⟩|⟨rfl,rfl⟩<;>omega
  ·have hx:jY to s x i=x:=by unfold jY;rw[if_neg hc]
   rw[hx]
   obtain⟨ih,ih2⟩:=round_p hlo hhi hs g x hn (fun j hj=>hl j (List.mem_cons_of_mem _ hj)) (fun j hj=>hb j (List.mem_cons_of_mem _ hj)) h0 h1
   generalize List.foldl (jY to s) x g=y at ih ih2 ⊢
   obtain⟨a1,a2,a3,a4,a5,a6,a7⟩:=ih
   have hyi:wAt y.2 i=wAt x.2 i:=by unfold wAt;rw[a5 i hni]
   refine⟨⟨a1,a2,?_,fun j hj=> ?_,fun j hj=>a5 j fun e=>hj (List.mem_cons_of_mem _ e),a6,a7⟩,fun hp ⟨j,hj,hne⟩=>ih2 hp ?_⟩
   ·simp only[jM];rw[hyi];omega
   ·rcases List.mem_cons.1 hj with rfl|hj
    ·rw[hyi];exact hbi
    ·exact a4 j hj
   ·rcases List.mem_cons.1 hj with rfl|hj
    ·exact absurd ⟨fun e=>by rw[e]at hp;simp at hp,hne⟩ hc
    ·exact⟨j,hj,hne⟩
theorem RdP.refl {g:List Nat}{lo hi s:Int}{x:Int×List Mrk}(hb :∀i∈g,lo≤wAt x.2 i∧wAt x.2 i≤hi)(h0:0≤s*x.1):RdP g lo hi s x x:=⟨rfl,h0,rfl,hb,fun _ _=>rfl,fun _=>rfl,Int.le_refl _⟩
theorem RdP.trans {g:List Nat}{lo hi s:Int}{x y z:Int×List Mrk}(h:RdP g lo hi s x y)(k:RdP g lo hi s y z):RdP g lo hi s x z:=
 ⟨k.len.trans h.len,k.pos,k.sum.trans h.sum,k.inb,fun i hi=>(k.out i hi).trans (h.out i hi),fun i=>by rw[k.fld i,h.fld i],Int.le_trans k.le h.le⟩
theorem loop_p {lo hi s to T:Int}(hlo : -255≤lo)(hhi:hi≤255)(hs:(s=1∧to=hi)∨(s = -1∧to=lo)){g:List Nat}(hn:g.Nodup)(hT:gcon g lo≤T∧T≤gcon g hi)(q:Int×List Mrk→Bool)(hq :∀x,q x=decide (0<s*x.1)) :
  ∀(k:Nat) (x:Int×List Mrk),(s*x.1).toNat≤k→(∀i∈g,i<x.2.length)→(∀i∈g,lo≤wAt x.2 i∧wAt x.2 i≤hi)→0≤s*x.1→s*x.1≤1000000000→x.1+jM g x.2=T →
  RdP g lo hi s x (jQ q (fun x=>g.foldl (jY to s) x) k x)∧(jQ q (fun x=>g.foldl (jY to s) x) k x).1=0
 | 0,x,hk,_,hb,h0,_,_=>⟨RdP.refl hb h0,by
   show x.1=0
   rcases hs with⟨rfl,rfl⟩|⟨rfl,rfl⟩<;>omega⟩
 |k+1,x,hk,hl,hb,h0,h1,hsum=>by
  unfold jQ
  rw[hq x]
  by_cases hp:0<s*x.1
  ·rw[decide_eq_true hp]
   obtain⟨r1,r2⟩:=round_p hlo hhi hs g x hn hl hb h0 h1
   have hex :∃i∈g,wAt x.2 i≠to:=by
    apply Classical.byContradiction
    intro hno
    have hall :∀i∈g,wAt x.2 i=to:=fun i hi=>Classical.byContradiction fun h=>hno ⟨i,hi,h⟩
    have:=gsum_const hall
    rcases hs with⟨rfl,rfl⟩|⟨rfl,rfl⟩<;>omega
   have r3:=r2 hp hex
   simp only
   generalize List.foldl (jY to s) x g=y at r1 r3 ⊢
   obtain⟨i1,i2⟩:=loop_p hlo hhi hs hn hT q hq k y (by omega) (fun i hi=>by rw[r1.len];exact hl i hi) r1.inb r1.pos (by have:=r1.le;omega) (by rw[r1.sum];exact hsum)
   exact⟨r1.trans i1,i2⟩
  ·rw[decide_eq_false hp]
   refine⟨RdP.refl hb h0,?_⟩
   show x.1=0
   rcases hs with⟨rfl,rfl⟩|⟨rfl,rfl⟩<;>omega
structure RsP (g:List Nat) (lo hi T:Int) (m m':List Mrk):Prop where
 len:m'.length=m.length
 sum:jM g m'=T
 inb :∀i∈g,lo≤wAt m' i∧wAt m' i≤hi
 out :∀i,i∉g→m'.getD i qW=m.getD i qW
 fld :∀i,m'.getD i qW={ m.getD i qW with w:=wAt m' i }
theorem restG_p (S:List Syn)(rs:List Rul)(pl:List Int)(tot:List (Key×Value))(m:List Mrk)(e:Key×Value){g:List Nat}{ru:Rul}(hg:grp S pl (Key.fst e.1) (Key.snd e.1)=g)(hru:rs.getD (Key.fst e.1).toNat jB=ru)(hlo : -255≤ru.lo)(hlh:ru.lo≤ru.hi)(hhi:ru.hi≤255)
  (hlen:g.length≤8192) (hl :∀i∈g,i<m.length) (hb :∀i∈g,ru.lo≤wAt m i∧wAt m i≤ru.hi) (hv:ival e.2=jM g m) (hT:gcon g ru.lo≤kiv tot e.1∧kiv tot e.1≤gcon g ru.hi) :
  qUp (yC S rs pl e.1 (W (kiv tot e.1-ival e.2),m))=false∧qDn (xD S rs pl e.1 (yC S rs pl e.1 (W (kiv tot e.1-ival e.2),m)))=false∧RsP g ru.lo ru.hi (kiv tot e.1) m (yF S rs pl tot m e):=by
 have hn:g.Nodup:=hg▸grp_nodup ..
 have b1:=gcon_abs (g:=g) hlo (by omega)
 have b2:=gcon_abs (g:=g) (show -255≤ru.hi by omega) hhi
 have b3:=wR hb
 rw[hv,zL (by omega) (by omega)]
 have hup :∀x,yC S rs pl e.1 x=jQ qUp (fun x=>g.foldl (jY ru.hi 1) x) x.1.toNat x:=fun x=>by
  unfold yC
  rw[hru]
  congr 1
  funext y
  rw[rdL_grp,hg]
 have hdn :∀x,xD S rs pl e.1 x=jQ qDn (fun x=>g.foldl (jY ru.lo (-1)) x) (-x.1).toNat x:=fun x=>by
  unfold xD
  rw[hru]
  congr 1
  funext y
  rw[rdL_grp,hg]
 have hqu :∀x,qUp x=decide (0<1*x.1):=fun x=>by unfold qUp;rw[Int.one_mul]
 have hqd :∀x,qDn x=decide (0 < -1*x.1):=fun x=>by
  unfold qDn
  congr 1
  apply propext
  omega
 have hG:yF S rs pl tot m e=(xD S rs pl e.1 (yC S rs pl e.1 (kiv tot e.1-jM g m,m))).2:=by
  unfold yF
  rw[hv,zL (by omega) (by omega)]
 rw[hG]
 generalize hx0:((kiv tot e.1-jM g m,m):Int×List Mrk)=x0
 have hx1:x0.1=kiv tot e.1-jM g m:=by rw[←hx0]
 have hx2:x0.2=m:=by rw[←hx0]
 rw[hup x0]
 by_cases h:0≤x0.1
 ·obtain⟨p1,p2⟩:=loop_p (T:=kiv tot e.1) hlo hhi (.inl ⟨rfl,rfl⟩) hn hT qUp hqu x0.1.toNat x0 (by omega) (by rw[hx2];exact hl) (by rw[hx2];exact hb) (by omega) (by omega) (by rw[hx1,hx2];omega)
  generalize jQ qUp (fun x=>g.foldl (jY ru.hi 1) x) x0.1.toNat x0=y at p1 p2 ⊢
  have e1:xD S rs pl e.1 y=y:=by
   rw[hdn,p2]
   show jQ qDn _ 0 y=y
   rfl
  rw[e1]
  refine⟨by rw[hqu,p2];decide,by rw[hqd,p2];decide,by rw[p1.len,hx2],?_,p1.inb,fun i hi=>by rw[p1.out i hi,hx2],fun i=>by rw[p1.fld i,hx2]⟩
  have:=p1.sum
  rw[hx1,hx2]at this
  omega
 ·have e0:jQ qUp (fun x=>g.foldl (jY ru.hi 1) x) x0.1.toNat x0=x0:=by
   rw[show x0.1.toNat=0 by omega]
   rfl
  rw[e0,hdn]
  obtain⟨p1,p2⟩:=loop_p (T:=kiv tot e.1) hlo hhi (.inr ⟨rfl,rfl⟩) hn hT qDn hqd (-x0.1).toNat x0 (by omega) (by rw[hx2];exact hl) (by rw[hx2];exact hb) (by omega) (by omega) (by rw[hx1,hx2];omega)
  generalize jQ qDn (fun x=>g.foldl (jY ru.lo (-1)) x) (-x0.1).toNat x0=y at p1 p2 ⊢
  refine⟨by unfold qUp;rw[decide_eq_false];omega,by rw[hqd,p2];decide,by rw[p1.len,hx2],?_,p1.inb,fun i hi=>by rw[p1.out i hi,hx2],fun i=>by rw[p1.fld i,hx2]⟩
  have:=p1.sum
  rw[hx1,hx2]at this
  omega
def yV (g:List Nat)(x y:Int×List Mrk):Prop:=x.1=y.1∧x.2.length=y.2.length ∧ ∀i∈g,x.2.getD i qW=y.2.getD i qW
theorem gStep_agree {g:List Nat}{to s:Int}{x y:Int×List Mrk}(h:yV g x y){i:Nat}(hi:i∈g):yV g (jY to s x i) (jY to s y i):=by
 obtain⟨h1,h2,h3⟩:=h
 unfold jY wAt
 rw[h1,h3 i hi]
 split
 ·refine⟨rfl,by simp[h2],fun j hj=> ?_⟩
  simp only[List.getD_eq_getElem?_getD,List.getElem?_set,h2]
  by_cases e:i=j
  ·subst e;simp
  ·have:=h3 j hj
   simpa[e,List.getD_eq_getElem?_getD]using this
 ·exact⟨h1,h2,h3⟩
theorem sI {g:List Nat}{to s:Int} :∀{l:List Nat} {x y:Int×List Mrk},yV g x y→(∀i∈l,i∈g)→yV g (l.foldl (jY to s) x) (l.foldl (jY to s) y)
 | [],_,_,h,_=>h
 |i::l,x,y,h,hl=>by
  rw[List.foldl_cons,List.foldl_cons]
  exact sI (gStep_agree h (hl i (List.mem_cons_self ..))) fun j hj=>hl j (List.mem_cons_of_mem _ hj)
theorem wS {g:List Nat}{q:Int×List Mrk→Bool}{f:Int×List Mrk→Int×List Mrk}(hq :∀x y,x.1=y.1→q x=q y)(hf :∀x y,yV g x y→yV g (f x) (f y)) :∀(k:Nat) {x y:Int×List Mrk},yV g x y→yV g (jQ q f k x) (jQ q f k y)
 | 0,_,_,h=>h
 |k+1,x,y,h=>by
  unfold jQ
  rw[hq x y h.1]
  cases q y with
  |true=>exact wS hq hf k (hf x y h)
  |false=>exact h
theorem restG_agree (S:List Syn)(rs:List Rul)(pl:List Int)(tot:List (Key×Value)){m m2:List Mrk}(e:Key×Value){g:List Nat}(hg:grp S pl (Key.fst e.1) (Key.snd e.1)=g)(hl:m.length=m2.length)(h :∀i∈g,m.getD i qW=m2.getD i qW) :
  ∀i∈g,(yF S rs pl tot m e).getD i qW=(yF S rs pl tot m2 e).getD i qW:=by
 have key :∀(to s:Int) (x y:Int×List Mrk),yV g x y→yV g (rdL S pl (Key.fst e.1) (Key.snd e.1) to s x) (rdL S pl (Key.fst e.1) (Key.snd e.1) to s y):=fun to s x y hxy=>by
  rw[rdL_grp,rdL_grp,hg]
  exact sI hxy fun _ h=>h
 have h0:yV g (W (kiv tot e.1-ival e.2),m) (W (kiv tot e.1-ival e.2),m2):=⟨rfl,hl,h⟩
 have h1:yV g (yC S rs pl e.1 (W (kiv tot e.1-ival e.2),m)) (yC S rs pl e.1 (W (kiv tot e.1-ival e.2),m2)):=
  wS (fun x y e=>by unfold qUp;rw[e]) (fun x y=>key _ _ x y) _ h0
 unfold yF
 have h2:yV g (xD S rs pl e.1 (yC S rs pl e.1 (W (kiv tot e.1-ival e.2),m))) (xD S rs pl e.1 (yC S rs pl e.1 (W (kiv tot e.1-ival e.2),m2))):=by
  unfold xD
  rw[h1.1]
  exact wS (fun x y e=>by unfold qDn;rw[e]) (fun x y=>key _ _ x y) _ h1
 exact h2.2.2
theorem kput_nodup :∀{l:List (Key×Value)} {k:Key} {v:Value},(l.map (·.1)).Nodup→((zK l k v).map (·.1)).Nodup
 | [],k,v,_=>by simp[zK]
 |(a,u)::l,k,v,h=>by
  simp only[List.map_cons,List.nodup_cons]at h
  unfold zK
  by_cases e:k=a
  ·rw[if_pos e]
   simpa using h
  ·rw[if_neg e]
   simp only[List.map_cons,List.nodup_cons]
   refine⟨fun hm=> ?_,kput_nodup h.2⟩
   obtain⟨x,hx,hxe⟩:=List.mem_map.1 hm
   rcases Sx.kput_keys l k v x hx with h1|⟨y,hy,hye⟩
   ·exact e (h1.symm.trans hxe)
   ·exact h.1 (List.mem_map.2 ⟨y,hy,hye.trans hxe⟩)
theorem sM :∀{l:List (Key×Value)} {x:Key×Value},(l.map (·.1)).Nodup→x∈l→zM l x.1=some x.2
 | [],_,_,h=>by cases h
 |(a,u)::l,x,hn,h=>by
  simp only[List.map_cons,List.nodup_cons]at hn
  unfold zM
  rcases List.mem_cons.1 h with rfl|h
  ·rw[if_pos rfl]
  ·rw[if_neg fun e=>hn.1 (List.mem_map.2 ⟨x,h,e⟩)]
   exact sM hn.2 h
theorem wX (S:List Syn)(rs:List Rul)(pl:List Int)(m:List Mrk):((qH S rs pl m).map (·.1)).Nodup:=by
 have :∀(l:List Nat) (acc:List (Key×Value)),(acc.map (·.1)).Nodup→((l.foldl (jG S rs pl m) acc).map (·.1)).Nodup:=by
  intro l
  induction l with
  |nil=>intro acc h;exact h
  |cons a l ih=>
   intro acc h
   refine ih _ ?_
   unfold jG
   split
   ·exact kput_nodup h
   ·exact h
 exact this _ _ (by simp)
theorem wA (l:List (Key×Value))(k:Key)(n:Int):kiv (zK l k (.int .i64 n)) k=n:=by unfold kiv;rw[k7];rfl
theorem kiv_put_other (l:List (Key×Value)){k k':Key}(n:Int)(h:k'≠k):kiv (zK l k (.int .i64 n)) k'=kiv l k':=by unfold kiv;rw[uD _ _ _ _ h]
theorem wW (S:List Syn)(rs:List Rul)(pl:List Int)(m:List Mrk)(r p:Int)(hr:(rs.getD r.toNat jB).sum=true) :∀(l:List Nat) (acc:List (Key×Value)) (c:Nat),(∀i∈l,-255≤wAt m i∧wAt m i≤255) → -255*(c:Int)≤kiv acc (.p r p)→kiv acc (.p r p)≤255*(c:Int)→c+l.length≤8192 →
  kiv (l.foldl (jG S rs pl m) acc) (.p r p)=kiv acc (.p r p)+jM (l.filter fun i=>decide (pl.getD i (-1)=r∧(S.getD i zC).to=p)) m
 | [],acc,c,_,_,_,_=>by simp[jM]
 |i::l,acc,c,hb,h1,h2,hc=>by
  rw[List.foldl_cons]
  have hbi:=hb i (List.mem_cons_self ..)
  have hbl :∀j∈l,-255≤wAt m j∧wAt m j≤255:=fun j hj=>hb j (List.mem_cons_of_mem _ hj)
  simp only[List.length_cons]at hc
  by_cases h:pl.getD i (-1)=r∧(S.getD i zC).to=p
  ·rw[List.filter_cons_of_pos (by simpa using h)]
   have e:jG S rs pl m acc i=zK acc (.p r p) (.int .i64 (kiv acc (.p r p)+wAt m i)):=by
    unfold jG
    rw[h.1,h.2,if_pos hr,zL (by unfold wAt at hbi;omega) (by unfold wAt at hbi;omega)]
    rfl
   rw[e,wW S rs pl m r p hr l _ (c+1) hbl (by rw[wA];omega) (by rw[wA];omega) (by omega),wA]
   simp only[jM]
   omega
  ·rw[List.filter_cons_of_neg (by simpa using h)]
   have e:kiv (jG S rs pl m acc i) (.p r p)=kiv acc (.p r p):=by
    unfold jG
    split
    ·rw[kiv_put_other]
     intro e
     obtain⟨e1,e2⟩:=Key.p.inj e
     exact h ⟨e1.symm,e2.symm⟩
    ·rfl
   rw[wW S rs pl m r p hr l _ c hbl (by rw[e];exact h1) (by rw[e];exact h2) (by omega),e]
theorem sA (S:List Syn)(rs:List Rul)(pl:List Int)(m:List Mrk)(r p:Int)(hr:(rs.getD r.toNat jB).sum=true)(hb :∀i∈zD pl,-255≤wAt m i∧wAt m i≤255)(hl:pl.length≤8192) :
  kiv (qH S rs pl m) (.p r p)=jM (grp S pl r p) m:=by
 have hp:(zD pl).length≤8192:=by
  have:=List.length_filter_le (fun i=>decide (0≤pl.getD i (-1))) (List.range pl.length)
  rw[List.length_range]at this
  exact Nat.le_trans this hl
 have:=wW S rs pl m r p hr (zD pl) [] 0 hb (by simp[kiv,zM,ival]) (by simp[kiv,zM,ival]) (by omega)
 rw[show kiv [] (.p r p)=0 from rfl,Int.zero_add]at this
 exact this
structure RestHyp (S:List Syn) (rs:List Rul) (pl:List Int) (tot:List (Key×Value)) (m:List Mrk):Prop where
 hpl:pl.length≤8192
 hm:m.length=pl.length
 lo :∀i∈zD pl,-255≤(rs.getD (pl.getD i (-1)).toNat jB).lo
 lh :∀i∈zD pl,(rs.getD (pl.getD i (-1)).toNat jB).lo≤(rs.getD (pl.getD i (-1)).toNat jB).hi
 hi :∀i∈zD pl,(rs.getD (pl.getD i (-1)).toNat jB).hi≤255
 inb :∀i∈zD pl,(rs.getD (pl.getD i (-1)).toNat jB).lo≤wAt m i∧wAt m i≤(rs.getD (pl.getD i (-1)).toNat jB).hi
 tot :∀r p,(rs.getD r.toNat jB).sum=true→gcon (grp S pl r p) (rs.getD r.toNat jB).lo≤kiv tot (.p r p)∧kiv tot (.p r p)≤gcon (grp S pl r p) (rs.getD r.toNat jB).hi
def uA (rs:List Rul)(pl:List Int)(i:Nat):Bool:=(rs.getD (pl.getD i (-1)).toNat jB).sum
structure RestRes (S:List Syn) (rs:List Rul) (pl:List Int) (tot:List (Key×Value)) (m m':List Mrk):Prop where
 len:m'.length=m.length
 inb :∀i∈zD pl,(rs.getD (pl.getD i (-1)).toNat jB).lo≤wAt m' i∧wAt m' i≤(rs.getD (pl.getD i (-1)).toNat jB).hi
 sum :∀r p,(rs.getD r.toNat jB).sum=true→jM (grp S pl r p) m'=kiv tot (.p r p)
 same :∀i,i∉zD pl∨uA rs pl i=false→m'.getD i qW=m.getD i qW
 fld :∀i,m'.getD i qW={ m.getD i qW with w:=wAt m' i }
 grp :∀i∈zD pl,uA rs pl i=true→m'.getD i qW=(yF S rs pl tot m (.p (pl.getD i (-1)) (S.getD i zC).to,.int .i64 (jM (grp S pl (pl.getD i (-1)) (S.getD i zC).to) m))).getD i qW
structure EntP (S:List Syn) (rs:List Rul) (pl:List Int) (m:List Mrk) (e:Key×Value) (r p:Int) (ru:Rul):Prop where
 key:e.1 = .p r p
 val:e.2 = .int .i64 (jM (grp S pl r p) m)
 rul:rs.getD r.toNat jB=ru
 sum:ru.sum=true
 lo : -255≤ru.lo
 lh:ru.lo≤ru.hi
 hi:ru.hi≤255
theorem RestHyp.ent {S:List Syn}{rs:List Rul}{pl:List Int}{tot:List (Key×Value)}{m:List Mrk}(h:RestHyp S rs pl tot m){e:Key×Value}(he:e∈qH S rs pl m) :∃r p ru,EntP S rs pl m e r p ru:=by
 obtain⟨⟨n,hn⟩,i,hi,hs,hk⟩:=sumsL_E S rs pl m e he
 refine⟨pl.getD i (-1),(S.getD i zC).to,_,hk,?_,rfl,hs,h.lo i hi,h.lh i hi,h.hi i hi⟩
 have h1:=sM (wX S rs pl m) he
 have h2:=sA S rs pl m _ (S.getD i zC).to hs (fun j hj=>by have a:=h.inb j hj;have b:=h.lo j hj;have c:=h.hi j hj;omega) h.hpl
 unfold kiv at h2
 rw[←hk,h1,hn]at h2
 rw[hn]
 exact congrArg (Value.int .i64) h2
theorem grp_rul {S:List Syn}{rs:List Rul}{pl:List Int}{r p:Int}{i:Nat}(h:i∈grp S pl r p):rs.getD (pl.getD i (-1)).toNat jB=rs.getD r.toNat jB:=by rw[(grp_mem.1 h).2.1]
theorem RestHyp.one {S:List Syn}{rs:List Rul}{pl:List Int}{tot:List (Key×Value)}{m m2:List Mrk}(h:RestHyp S rs pl tot m){e:Key×Value}{r p:Int}{ru:Rul}(he:EntP S rs pl m e r p ru)(hl:m2.length=m.length)(hag :∀i∈grp S pl r p,m2.getD i qW=m.getD i qW) :
  qUp (yC S rs pl e.1 (W (kiv tot e.1-ival e.2),m2))=false∧qDn (xD S rs pl e.1 (yC S rs pl e.1 (W (kiv tot e.1-ival e.2),m2)))=false∧RsP (grp S pl r p) ru.lo ru.hi (kiv tot e.1) m2 (yF S rs pl tot m2 e):=by
 have hw :∀i∈grp S pl r p,wAt m2 i=wAt m i:=fun i hi=>by unfold wAt;rw[hag i hi]
 refine restG_p S rs pl tot m2 e (by rw[he.key];rfl) (by rw[he.key];exact he.rul) he.lo he.lh he.hi (Nat.le_trans (grp_len ..) h.hpl) (fun i hi=> ?_) (fun i hi=> ?_) ?_ ?_
 ·rw[hl,h.hm];exact plIdx_lt (grp_mem.1 hi).1
 ·rw[hw i hi,←he.rul,←grp_rul hi];exact h.inb i (grp_mem.1 hi).1
 ·rw[he.val,vY hw];rfl
 ·rw[he.key,←he.rul];exact h.tot r p (by rw[he.rul];exact he.sum)
theorem grp_disj {S:List Syn}{pl:List Int}{r p r2 p2:Int}{i:Nat}(h:i∈grp S pl r p)(h2:i∈grp S pl r2 p2):r=r2∧p=p2:=by
 have a:=(grp_mem.1 h).2
 have b:=(grp_mem.1 h2).2
 exact⟨a.1.symm.trans b.1,a.2.symm.trans b.2⟩
theorem snocInd {P:List Nat→Prop}(nil:P [])(snoc :∀l a,P l→P (l++[a]))(l:List Nat):P l:=by
 have :∀l:List Nat,P l.reverse:=by
  intro l
  induction l with
  |nil=>exact nil
  |cons a l ih=>rw[List.reverse_cons];exact snoc _ _ ih
 simpa using this l.reverse
def egrp (S:List Syn)(pl:List Int)(e:Key×Value):List Nat:=grp S pl (Key.fst e.1) (Key.snd e.1)
theorem RestHyp.fold {S:List Syn}{rs:List Rul}{pl:List Int}{tot:List (Key×Value)}{m:List Mrk}(h:RestHyp S rs pl tot m)(ks:List Nat):ks.Nodup→(∀k∈ks,k<(qH S rs pl m).length) →
  (∀k∈ks,∀i∈egrp S pl ((qH S rs pl m).getD k ent0),(jZ S rs pl tot (qH S rs pl m) m ks).getD i qW=(yF S rs pl tot m ((qH S rs pl m).getD k ent0)).getD i qW) ∧
  (∀i,(∀k∈ks,i∉egrp S pl ((qH S rs pl m).getD k ent0))→(jZ S rs pl tot (qH S rs pl m) m ks).getD i qW=m.getD i qW):=by
 have hent :∀k,k<(qH S rs pl m).length → ∃e,(qH S rs pl m).getD k ent0=e∧(qH S rs pl m)[k]? = some e∧e∈qH S rs pl m:=fun k hk=>⟨_,rfl,by simp[List.getD_eq_getElem?_getD,hk],by simp[List.getD_eq_getElem?_getD,hk]⟩
 have hdis :∀k k2,k<(qH S rs pl m).length→k2<(qH S rs pl m).length → ∀i,i∈egrp S pl ((qH S rs pl m).getD k ent0)→i∈egrp S pl ((qH S rs pl m).getD k2 ent0)→k=k2:=by
  intro k k2 hk hk2 i hi hi2
  obtain⟨e,h1,h2,h3⟩:=hent k hk
  obtain⟨e2,g1,g2,g3⟩:=hent k2 hk2
  rw[h1]at hi
  rw[g1]at hi2
  obtain⟨r,p,ru,he⟩:=h.ent h3
  obtain⟨r2,p2,ru2,he2⟩:=h.ent g3
  unfold egrp at hi hi2
  rw[he.key]at hi
  rw[he2.key]at hi2
  obtain⟨rfl,rfl⟩:=grp_disj hi hi2
  have hn:=wX S rs pl m
  have e1:((qH S rs pl m).map (·.1))[k]? = some e.1:=by rw[List.getElem?_map,h2];rfl
  have e3:((qH S rs pl m).map (·.1))[k2]? = some e.1:=by rw[List.getElem?_map,g2,he.key];show some e2.1=_;rw[he2.key];rfl
  exact(List.getElem?_inj (by simpa using hk) hn).1 (e1.trans e3.symm)
 induction ks using snocInd with
 |nil=>exact fun _ _=>⟨fun k hk=>by simp at hk,fun _ _=>rfl⟩
 |snoc ks k ih=>
  intro hn hl
  obtain⟨hn1,_,hn3⟩:=List.nodup_append.1 hn
  have hkl:=hl k (by simp)
  have hl1 :∀j∈ks,j<(qH S rs pl m).length:=fun j hj=>hl j (by simp[hj])
  obtain⟨i1,i2⟩:=ih hn1 hl1
  have hlen:=kI S rs pl tot (qH S rs pl m) ks m
  rw[restK_snoc]
  obtain⟨e,h1,h2,h3⟩:=hent k hkl
  obtain⟨r,p,ru,he⟩:=h.ent h3
  have hgE:egrp S pl e=grp S pl r p:=by unfold egrp;rw[he.key];rfl
  have hag :∀i∈grp S pl r p,(jZ S rs pl tot (qH S rs pl m) m ks).getD i qW=m.getD i qW:=fun i hi=>i2 i fun j hj hij=>by
   have:=hdis j k (hl1 j hj) hkl i hij (by rw[h1,hgE];exact hi)
   exact hn3 j hj k (by simp) this
  obtain⟨_,_,hp⟩:=h.one he hlen hag
  rw[h1]
  refine⟨fun j hj i hi=> ?_,fun i hi=> ?_⟩
  ·rcases List.mem_append.1 hj with hj|hj
   ·rw[hp.out i fun hi2=> ?_]
    ·exact i1 j hj i hi
    ·have:=hdis j k (hl1 j hj) hkl i hi (by rw[h1,hgE];exact hi2)
     exact hn3 j hj k (by simp) this
   ·obtain rfl:j=k:=by simpa using hj
    rw[h1]at hi ⊢
    rw[hgE]at hi
    exact restG_agree S rs pl tot e (by rw[he.key];rfl) hlen hag i hi
  ·have hik:=hi k (by simp)
   rw[h1,hgE]at hik
   rw[hp.out i hik]
   exact i2 i fun j hj=>hi j (by simp[hj])
theorem getD_ext {m m':List Mrk}(hl:m.length=m'.length)(h :∀i,m.getD i qW=m'.getD i qW):m=m':=by
 refine List.ext_getElem hl fun i h1 h2=> ?_
 have:=h i
 simpa[List.getD_eq_getElem?_getD,h1,h2]using this
theorem RestHyp.result {S:List Syn}{rs:List Rul}{pl:List Int}{tot:List (Key×Value)}{m:List Mrk}(h:RestHyp S rs pl tot m) :
  RestOK S rs pl tot (qH S rs pl m) m ∧ ∃m',(∀ks:List Nat,ks.Nodup→(∀k∈ks,k<(qH S rs pl m).length)→(∀k,k<(qH S rs pl m).length→k∈ks)→jZ S rs pl tot (qH S rs pl m) m ks=m')∧RestRes S rs pl tot m m':=by
 have hent :∀k,k<(qH S rs pl m).length→(qH S rs pl m).getD k ent0∈qH S rs pl m:=fun k hk=>by simp[List.getD_eq_getElem?_getD,hk]
 refine⟨fun ks i hn hl=> ?_,jZ S rs pl tot (qH S rs pl m) m (List.range (qH S rs pl m).length),fun ks hn hl hall=> ?_,?_⟩
 ·obtain⟨hn1,_,hn3⟩:=List.nodup_append.1 hn
  obtain⟨r,p,ru,he⟩:=h.ent (hent i (hl i (by simp)))
  have hfull:=(h.fold ks hn1 fun k hk=>hl k (by simp[hk])).2
  have hgE:egrp S pl ((qH S rs pl m).getD i ent0)=grp S pl r p:=by unfold egrp;rw[he.key];rfl
  have hag :∀j∈grp S pl r p,(jZ S rs pl tot (qH S rs pl m) m ks).getD j qW=m.getD j qW:=by
   intro j hj
   refine hfull j fun k hk hkj=> ?_
   obtain⟨r2,p2,ru2,he2⟩:=h.ent (hent k (hl k (by simp[hk])))
   unfold egrp at hkj
   rw[he2.key]at hkj
   obtain⟨rfl,rfl⟩:=grp_disj hj hkj
   have hnd:=wX S rs pl m
   have hkl:=hl k (by simp[hk])
   have hil:=hl i (by simp)
   have e1:((qH S rs pl m).map (·.1))[k]? = some (.p r p):=by rw[←he2.key];simp[List.getD_eq_getElem?_getD,hkl]
   have e3:((qH S rs pl m).map (·.1))[i]? = some (.p r p):=by rw[←he.key];simp[List.getD_eq_getElem?_getD,hil]
   exact hn3 k hk i (by simp) ((List.getElem?_inj (by simpa using hkl) hnd).1 (e1.trans e3.symm))
  obtain⟨a,b,_⟩:=h.one he (kI S rs pl tot (qH S rs pl m) ks m) hag
  exact⟨a,b⟩
 ·obtain⟨a1,a2⟩:=h.fold ks hn hl
  obtain⟨b1,b2⟩:=h.fold (List.range (qH S rs pl m).length) List.nodup_range fun k hk=>List.mem_range.1 hk
  refine getD_ext ((kI ..).trans (kI ..).symm) fun i=> ?_
  by_cases hi :∃k,k<(qH S rs pl m).length∧i∈egrp S pl ((qH S rs pl m).getD k ent0)
  ·obtain⟨k,hk,hik⟩:=hi
   rw[a1 k (hall k hk) i hik,b1 k (List.mem_range.2 hk) i hik]
  ·have hno :∀k,k<(qH S rs pl m).length→i∉egrp S pl ((qH S rs pl m).getD k ent0):=fun k hk hik=>hi ⟨k,hk,hik⟩
   rw[a2 i fun k hk=>hno k (hl k hk),b2 i fun k hk=>hno k (List.mem_range.1 hk)]
 ·obtain⟨b1,b2⟩:=h.fold (List.range (qH S rs pl m).length) List.nodup_range fun k hk=>List.mem_range.1 hk
  have hlen:=kI S rs pl tot (qH S rs pl m) (List.range (qH S rs pl m).length) m
  generalize jZ S rs pl tot (qH S rs pl m) m (List.range (qH S rs pl m).length)=m' at b1 b2 hlen ⊢
  have hin :∀i∈zD pl,uA rs pl i=true → ∃e∈qH S rs pl m,e.1 = .p (pl.getD i (-1)) (S.getD i zC).to:=by
   intro i hi hs
   have keep :∀(l:List Nat) (acc:List (Key×Value)) (k:Key),(∃e∈acc,e.1=k) → ∃e∈l.foldl (jG S rs pl m) acc,e.1=k:=by
    intro l
    induction l with
    |nil=>intro acc k h;exact h
    |cons a l ih=>
     intro acc k ⟨e,he,hek⟩
     refine ih _ k ?_
     unfold jG
     split
     ·generalize(Key.p (pl.getD a (-1)) (S.getD a zC).to)=k2
      generalize Value.int .i64 _=v2
      have :∀(acc:List (Key×Value)),(∃e∈acc,e.1=k) → ∃e∈zK acc k2 v2,e.1=k:=by
       intro acc
       induction acc with
       |nil=>intro⟨e,he,_⟩;cases he
       |cons x acc ih2=>
        obtain⟨xa,xu⟩:=x
        intro⟨e,he,hek⟩
        unfold zK
        split
        ·rename_i hk2
         rcases List.mem_cons.1 he with rfl|he
         ·exact⟨_,List.mem_cons_self ..,hek⟩
         ·exact⟨e,List.mem_cons_of_mem _ he,hek⟩
        ·rcases List.mem_cons.1 he with rfl|he
         ·exact⟨_,List.mem_cons_self ..,hek⟩
         ·obtain⟨y,hy,hyk⟩:=ih2 ⟨e,he,hek⟩
          exact⟨y,List.mem_cons_of_mem _ hy,hyk⟩
      exact this acc ⟨e,he,hek⟩
     ·exact⟨e,he,hek⟩
   have step :∀(l:List Nat) (acc:List (Key×Value)),i∈l → ∃e∈l.foldl (jG S rs pl m) acc,e.1 = .p (pl.getD i (-1)) (S.getD i zC).to:=by
    intro l
    induction l with
    |nil=>intro acc h;cases h
    |cons a l ih=>
     intro acc h
     rw[List.foldl_cons]
     rcases List.mem_cons.1 h with rfl|h
     ·refine keep l _ _ ?_
      unfold jG
      rw[if_pos (show(rs.getD (pl.getD i (-1)).toNat jB).sum=true from hs)]
      generalize(Key.p (pl.getD i (-1)) (S.getD i zC).to)=k2
      generalize Value.int .i64 _=v2
      exact⟨_,kget_mem (k7 acc k2 v2),rfl⟩
     ·exact ih _ h
   exact step _ _ hi
  have hidx :∀i∈zD pl,uA rs pl i=true → ∃k,k<(qH S rs pl m).length∧((qH S rs pl m).getD k ent0).1 = .p (pl.getD i (-1)) (S.getD i zC).to:=by
   intro i hi hs
   obtain⟨e,he,hk⟩:=hin i hi hs
   obtain⟨k,hkl,hke⟩:=List.mem_iff_getElem.1 he
   exact⟨k,hkl,by simp[List.getD_eq_getElem?_getD,hkl,hke,hk]⟩
  have hself :∀i∈zD pl,i∈grp S pl (pl.getD i (-1)) (S.getD i zC).to:=fun i hi=>grp_mem.2 ⟨hi,rfl,rfl⟩
  have hg :∀i∈zD pl,uA rs pl i=true→m'.getD i qW=(yF S rs pl tot m (.p (pl.getD i (-1)) (S.getD i zC).to,.int .i64 (jM (grp S pl (pl.getD i (-1)) (S.getD i zC).to) m))).getD i qW∧RsP (grp S pl (pl.getD i (-1)) (S.getD i zC).to) (rs.getD (pl.getD i (-1)).toNat jB).lo (rs.getD (pl.getD i (-1)).toNat jB).hi (kiv tot (.p (pl.getD i (-1)) (S.getD i zC).to)) m (yF S rs pl tot m (.p (pl.getD i (-1)) (S.getD i zC).to,.int .i64 (jM (grp S pl (pl.getD i (-1)) (S.getD i zC).to) m))) ∧
    ∀j∈grp S pl (pl.getD i (-1)) (S.getD i zC).to,m'.getD j qW=(yF S rs pl tot m (.p (pl.getD i (-1)) (S.getD i zC).to,.int .i64 (jM (grp S pl (pl.getD i (-1)) (S.getD i zC).to) m))).getD j qW:=by
   intro i hi hs
   obtain⟨k,hkl,hk⟩:=hidx i hi hs
   obtain⟨r,p,ru,he⟩:=h.ent (hent k hkl)
   rw[he.key]at hk
   obtain⟨rfl,rfl⟩:=Key.p.inj hk
   have ee:(qH S rs pl m).getD k ent0=(.p (pl.getD i (-1)) (S.getD i zC).to,.int .i64 (jM (grp S pl (pl.getD i (-1)) (S.getD i zC).to) m)):=Prod.ext he.key he.val
   have hall :∀j∈grp S pl (pl.getD i (-1)) (S.getD i zC).to,m'.getD j qW=(yF S rs pl tot m (.p (pl.getD i (-1)) (S.getD i zC).to,.int .i64 (jM (grp S pl (pl.getD i (-1)) (S.getD i zC).to) m))).getD j qW:=fun j hj=>by
    rw[b1 k (List.mem_range.2 hkl) j (by unfold egrp;rw[he.key];exact hj),ee]
   have hone:=(h.one he rfl fun _ _=>rfl).2.2
   rw[ee]at hone
   rw[←he.rul]at hone
   exact⟨hall i (hself i hi),hone,hall⟩
  have hsame :∀i,i∉zD pl∨uA rs pl i=false→m'.getD i qW=m.getD i qW:=by
   intro i hi
   refine b2 i fun k hk hik=> ?_
   have hkl:=List.mem_range.1 hk
   obtain⟨r,p,ru,he⟩:=h.ent (hent k hkl)
   unfold egrp at hik
   rw[he.key]at hik
   have hm:=grp_mem.1 hik
   rcases hi with hi|hi
   ·exact hi hm.1
   ·have:=he.sum
    rw[←he.rul]at this
    have e3:Key.fst (.p r p)=r:=rfl
    rw[e3]at hm
    unfold uA at hi
    rw[hm.2.1,this]at hi
    cases hi
  refine⟨hlen,fun i hi=> ?_,fun r p hr=> ?_,hsame,fun i=> ?_,fun i hi hs=>(hg i hi hs).1⟩
  ·by_cases hs:uA rs pl i=true
   ·obtain⟨g1,g2,_⟩:=hg i hi hs
    have:=g2.inb i (hself i hi)
    unfold wAt at this ⊢
    rw[g1];exact this
   ·have:=hsame i (.inr (by simpa using hs))
    unfold wAt
    rw[this]
    exact h.inb i hi
  ·cases hgr:grp S pl r p with
   |nil=>
    have:=h.tot r p hr
    rw[hgr]at this
    simp only[gcon]at this
    simp only[jM]
    omega
   |cons i g=>
    have hi:i∈grp S pl r p:=by rw[hgr];exact List.mem_cons_self ..
    obtain⟨hi1,hi2,hi3⟩:=grp_mem.1 hi
    obtain⟨_,g2,g3⟩:=hg i hi1 (by unfold uA;rw[hi2];exact hr)
    rw[hi2,hi3]at g2 g3
    rw[←hgr,←g2.sum]
    exact vY fun j hj=>by unfold wAt;rw[g3 j hj]
  ·by_cases hi:i∈zD pl
   ·by_cases hs:uA rs pl i=true
    ·obtain⟨g1,g2,_⟩:=hg i hi hs
     have:=g2.fld i
     unfold wAt at this ⊢
     rw[g1];exact this
    ·have:=hsame i (.inr (by simpa using hs))
     unfold wAt;rw[this]
   ·have:=hsame i (.inl hi)
    unfold wAt;rw[this]
structure Lnt where
 n:Net
 rs:List Rul
 pl:List Int
structure Lst where
 tick:Int
 st:List Ste
 m:List Mrk
 sm:Nat→List Int
def mk0 (s:Syn):Mrk:=⟨s.w,0,0,0⟩
def Lnt.m0 (x:Lnt):List Mrk:=x.n.S.map mk0
def Lnt.tot (x:Lnt):List (Key×Value):=qH x.n.S x.rs x.pl x.m0
def Lnt.new (x:Lnt):Lst:=⟨0,List.replicate x.n.N.length jC,x.m0,fun _=>[]⟩
def lA (x:Lnt)(s:Lst):List Bool×List Int:=aL s.sm s.tick x.n.S s.m x.n.N.length
def lB (x:Lnt)(s:Lst):List Ste×List Int×List Int:=nL x.n.N (lA x s).2 s.st
def lP (x:Lnt)(s:Lst)(rw0:List Int):List Mrk:=pL x.n.S x.rs x.pl (lA x s).1 (lB x s).2.2 rw0 s.m
def lR (x:Lnt)(s:Lst)(rw0:List Int):List Mrk:=jZ x.n.S x.rs x.pl x.tot (qH x.n.S x.rs x.pl (lP x s rw0)) (lP x s rw0) (List.range (qH x.n.S x.rs x.pl (lP x s rw0)).length)
def lN (x:Lnt)(s:Lst)(inputs rw0:List Int):Lst:=⟨W (s.tick+1),(lB x s).1,lR x s rw0,fun j=>if j=zE s.tick then x9 (lB x s).2.2 inputs else s.sm j⟩
def lOut (x:Lnt)(s:Lst):List Int:=(lB x s).2.1
def Lnt.rul (x:Lnt)(i:Nat):Rul:=x.rs.getD (x.pl.getD i (-1)).toNat jB
structure NetOK (x:Lnt):Prop where
 N1:1≤x.n.N.length
 N2:x.n.N.length≤1024
 inp0:0≤x.n.inp
 inp1:x.n.inp≤256
 S1:x.n.S.length≤8192
 chk :∀i (h:i<x.n.N.length),chk x.n.N[i]=0
 fr0 :∀i (h:i<x.n.S.length),-x.n.inp≤x.n.S[i].fr
 fr1 :∀i (h:i<x.n.S.length),x.n.S[i].fr<(x.n.N.length:Int)
 to0 :∀i (h:i<x.n.S.length),0≤x.n.S[i].to
 to1 :∀i (h:i<x.n.S.length),x.n.S[i].to<(x.n.N.length:Int)
 w0 :∀i (h:i<x.n.S.length),-32768≤x.n.S[i].w
 w1 :∀i (h:i<x.n.S.length),x.n.S[i].w≤32768
 d0 :∀i (h:i<x.n.S.length),1≤x.n.S[i].d
 d1 :∀i (h:i<x.n.S.length),x.n.S[i].d≤16
 rl:x.rs.length≤16
 rul :∀i (h:i<x.rs.length),GoodR x.rs[i]
 lpl:x.pl.length=x.n.S.length
 p0 :∀i (h:i<x.pl.length),-1≤x.pl[i]
 p1 :∀i (h:i<x.pl.length),x.pl[i]<(x.rs.length:Int)
 pw :∀i (h:i<x.pl.length) (h':i<x.n.S.length),0≤x.pl[i]→(x.rs.getD x.pl[i].toNat jB).lo≤x.n.S[i].w∧x.n.S[i].w≤(x.rs.getD x.pl[i].toNat jB).hi
theorem xK {α : Type}{f : α → Int} :∀{l:List α},jH f l=0 → ∀i (h:i<l.length),f l[i]=0
 | [],_,i,h=>by simp at h
 |a::l,hz,i,h=>by
  unfold jH at hz
  split at hz
  ·rename_i ha
   cases i with
   |zero=>exact ha
   |succ i=>simpa using xK hz i (by simpa using h)
  ·rename_i ha;exact absurd hz ha
theorem wi_iff {n lo hi:Int}:wi n lo hi=true↔lo≤n∧n≤hi:=by unfold wi;simp
theorem uH {n:Net}{rs:List Rul}{pl:List Int}(h:qZ n rs pl=0):NetOK ⟨n,rs,pl⟩:=by
 unfold qZ at h
 split at h
 ·rename_i h1;exact absurd h h1
 rename_i hn
 have hn:jA n=0:=by simpa using hn
 split at h
 ·exact absurd h (by decide)
 rename_i hr
 split at h
 ·rename_i h1;exact absurd h h1
 rename_i hru
 have hru:jH yN rs=0:=by simpa using hru
 split at h
 ·exact absurd h (by decide)
 rename_i hpl
 unfold jA at hn
 split at hn
 ·exact absurd hn (by decide)
 rename_i hN
 split at hn
 ·exact absurd hn (by decide)
 rename_i hM
 simp only[Bool.or_eq_true,decide_eq_true_eq,not_or,Int.not_lt]at hM
 split at hn
 ·exact absurd hn (by decide)
 rename_i hI
 split at hn
 case isFalse=>rename_i h1;exact absurd hn h1
 rename_i hC
 have hS:=xK hn
 have hlen:pl.length=n.S.length:=by omega
 have hsy :∀i (h:i<n.S.length),kA n.N.length n.inp n.S[i]=true:=fun i hi=>by
  have:=hS i hi
  split at this
  ·assumption
  ·exact absurd this (by decide)
 have e1:W (-n.inp) = -n.inp:=zL (by omega) (by omega)
 have e2:W ((n.N.length:Int)-1)=(n.N.length:Int)-1:=zL (by omega) (by omega)
 have hsy2 :∀i (h:i<n.S.length),(-n.inp≤n.S[i].fr∧n.S[i].fr≤(n.N.length:Int)-1)∧(0≤n.S[i].to∧n.S[i].to≤(n.N.length:Int)-1)∧(-32768≤n.S[i].w∧n.S[i].w≤32768)∧1≤n.S[i].d∧n.S[i].d≤16:=fun i hi=>by
  have:=hsy i hi
  unfold kA srcB at this
  rw[e1,e2]at this
  simp only[Bool.and_eq_true,wi_iff]at this
  exact⟨this.1.1.1,this.1.1.2,this.1.2,this.2⟩
 have hP:=xK h
 have e3:W ((rs.length:Int)-1)=(rs.length:Int)-1:=zL (by omega) (by omega)
 have hp2 :∀i (h:i<pl.length) (h':i<n.S.length),(-1≤pl[i]∧pl[i]≤(rs.length:Int)-1)∧(0≤pl[i]→(rs.getD pl[i].toNat jB).lo≤n.S[i].w∧n.S[i].w≤(rs.getD pl[i].toNat jB).hi):=fun i hi hi'=>by
  have:=hP i (by simp;omega)
  unfold vD at this
  rw[e3]at this
  simp only[List.getElem_zip]at this
  split at this
  ·exact absurd this (by decide)
  rename_i hw
  have hw:=wi_iff.1 (by simpa using hw)
  refine⟨hw,fun h0=> ?_⟩
  rw[if_pos h0]at this
  have hk:pl[i].toNat<rs.length:=by omega
  simp only[List.getElem?_eq_getElem hk]at this
  have hg:rs.getD pl[i].toNat jB=rs[pl[i].toNat]:=by simp[List.getD_eq_getElem?_getD,hk]
  rw[hg]
  split at this
  ·rename_i h2;exact wi_iff.1 h2
  ·exact absurd this (by decide)
 exact⟨by show 1≤n.N.length;omega,by show n.N.length≤1024;omega,by show 0≤n.inp;omega,by show n.inp≤256;omega,by show n.S.length≤8192;omega,xK hC,fun i hi=>(hsy2 i hi).1.1,fun i hi=>by have:=(hsy2 i hi).1.2;show n.S[i].fr<(n.N.length:Int);omega,
  fun i hi=>(hsy2 i hi).2.1.1,fun i hi=>by have:=(hsy2 i hi).2.1.2;show n.S[i].to<(n.N.length:Int);omega,fun i hi=>(hsy2 i hi).2.2.1.1,fun i hi=>(hsy2 i hi).2.2.1.2,fun i hi=>(hsy2 i hi).2.2.2.1,fun i hi=>(hsy2 i hi).2.2.2.2,
  by show rs.length≤16;omega,fun i hi=>rchk_good.1 (xK hru i hi),hlen,fun i hi=>(hp2 i hi (by have:i<pl.length:=hi;show i<n.S.length;omega)).1.1,fun i hi=>by have:=(hp2 i hi (by have:i<pl.length:=hi;omega)).1.2;show pl[i]<(rs.length:Int);omega,fun i hi hi' h0=>(hp2 i hi hi').2 h0⟩
theorem plIdx_iff {pl:List Int}{i:Nat}:i∈zD pl↔i<pl.length∧0≤pl.getD i (-1):=by
 unfold zD
 simp
structure MrkOK (r:Rul) (m:Mrk):Prop where
 w0:r.lo≤m.w
 w1:m.w≤r.hi
 x0:0≤m.x
 x1:m.x≤65535
 y0:0≤m.y
 y1:m.y≤65535
 e0 : -65535≤m.e
 e1:m.e≤65535
structure LInv (x:Lnt) (s:Lst):Prop where
 t0:0≤s.tick
 lst:s.st.length=x.n.N.length
 vok :∀i (h:i<x.n.N.length) (h':i<s.st.length),vld x.n.N[i] s.st[i]=0
 lm:s.m.length=x.n.S.length
 mok :∀i∈zD x.pl,MrkOK (x.rul i) (s.m.getD i qW)
 oth :∀i,i∉zD x.pl→s.m.getD i qW=x.m0.getD i qW
theorem NetOK.good {x:Lnt}(hx:NetOK x){i:Nat}(hi:i∈zD x.pl):GoodR (x.rul i):=by
 obtain⟨h1,h2⟩:=plIdx_iff.1 hi
 have hg:x.pl.getD i (-1)=x.pl[i]:=by simp[List.getD_eq_getElem?_getD,h1]
 have h3:=hx.p1 i h1
 rw[hg]at h2
 have hk:x.pl[i].toNat<x.rs.length:=by omega
 have:x.rul i=x.rs[x.pl[i].toNat]:=by unfold Lnt.rul;rw[hg];simp[List.getD_eq_getElem?_getD,hk]
 rw[this];exact hx.rul _ hk
theorem m0_get (x:Lnt)(i:Nat):x.m0.getD i qW=mk0 (x.n.S.getD i zC):=by
 unfold Lnt.m0
 simp only[List.getD_eq_getElem?_getD,List.getElem?_map]
 cases x.n.S[i]?<;>rfl
theorem vld_start {p:Prm}(h:chk p=0):vld p jC=0:=by
 have hg:=chk_good.1 h
 refine vld_good.2 ⟨hg,?_,?_⟩
 ·have:=hg.floor;exact⟨this.2,by decide⟩
 ·exact⟨by decide,hg.rest.1⟩
theorem LInv.start {x:Lnt}(hx:NetOK x):LInv x x.new:=by
 refine⟨Int.le_refl _,by simp[Lnt.new],fun i h h'=> ?_,by simp[Lnt.new,Lnt.m0],fun i hi=> ?_,fun _ _=>rfl⟩
 ·have:x.new.st[i]=jC:=by simp[Lnt.new]
  rw[this];exact vld_start (hx.chk i h)
 ·obtain⟨h1,h2⟩:=plIdx_iff.1 hi
  have h1':i<x.n.S.length:=by have:=hx.lpl;omega
  have hg:x.pl.getD i (-1)=x.pl[i]:=by simp[List.getD_eq_getElem?_getD,h1]
  have h3:=hx.pw i h1 h1' (by rw[←hg];exact h2)
  have e:x.new.m.getD i qW=mk0 x.n.S[i]:=by
   show x.m0.getD i qW=_
   rw[m0_get];simp[List.getD_eq_getElem?_getD,h1']
  rw[e]
  unfold Lnt.rul
  rw[hg]
  exact⟨h3.1,h3.2,(show(0:Int)≤0 by decide),(show(0:Int)≤65535 by decide),(show(0:Int)≤0 by decide),(show(0:Int)≤65535 by decide),(show(-65535:Int)≤0 by decide),(show(0:Int)≤65535 by decide)⟩
theorem pFold_get (S:List Syn)(rs:List Rul)(pl:List Int)(arr:List Bool)(sent rw0:List Int) :∀(l:List Nat) (m:List Mrk),l.Nodup→(∀i∈l,i<m.length) → ∀i,
  (l.foldl (pStep S rs pl arr sent rw0) m).getD i qW=if i∈l then pMark (rs.getD (pl.getD i (-1)).toNat jB) (decide ((S.getD i zC).to∈sent)) (arr.getD i false) (rw0.getD (pl.getD i (-1)).toNat 0) (m.getD i qW)else m.getD i qW
 | [],m,_,_,i=>by simp
 |a::l,m,hn,hl,i=>by
  obtain⟨hn1,hn2⟩:=List.nodup_cons.1 hn
  rw[List.foldl_cons,pFold_get S rs pl arr sent rw0 l _ hn2 (fun j hj=>by have:=hl j (List.mem_cons_of_mem _ hj);simpa[pStep]using this) i]
  have hs:(pStep S rs pl arr sent rw0 m a).getD i qW=if a=i then pMark (rs.getD (pl.getD a (-1)).toNat jB) (decide ((S.getD a zC).to∈sent)) (arr.getD a false) (rw0.getD (pl.getD a (-1)).toNat 0) (m.getD a qW)else m.getD i qW:=uN (hl a (List.mem_cons_self ..))
  rw[hs]
  by_cases e:a=i
  ·subst e
   rw[if_neg hn1,if_pos rfl,if_pos (List.mem_cons_self ..)]
  ·rw[if_neg e]
   simp only[List.mem_cons,Ne.symm e,false_or]
theorem lP_get {x:Lnt}{s:Lst}(hx:NetOK x)(h:LInv x s)(rw0:List Int)(i:Nat) :
  (lP x s rw0).getD i qW=if i∈zD x.pl then pMark (x.rul i) (decide ((x.n.S.getD i zC).to∈(lB x s).2.2)) ((lA x s).1.getD i false) (rw0.getD (x.pl.getD i (-1)).toNat 0) (s.m.getD i qW)else s.m.getD i qW:=by
 unfold lP pL
 exact pFold_get _ _ _ _ _ _ _ _ (sQ _) (fun j hj=>by have:=plIdx_lt hj;have:=hx.lpl;have:=h.lm;omega) i
theorem lP_len (x:Lnt)(s:Lst)(rw0:List Int):(lP x s rw0).length=s.m.length:=wL ..
theorem pMark_ok {r:Rul}(hr:GoodR r){m:Mrk}(hm:MrkOK r m)(spike arrived:Bool)(rw0:Int):MrkOK r (pMark r spike arrived rw0 m):=by
 have hb:=hr.bounds
 have hg:=hr.gain
 have tr :∀a k:Int,0≤a→a≤65535→0≤k→k≤255→0≤W ((W (a*k)).tdiv 256)∧W ((W (a*k)).tdiv 256)≤65535:=by
  intro a k h1 h2 h3 h4
  have h5:a*k≤65535*255:=Int.mul_le_mul h2 h4 h3 (by decide)
  have h6:0≤a*k:=Int.mul_nonneg h1 h3
  have e1:W (a*k)=a*k:=zL (by omega) (by omega)
  rw[e1]
  have h7:(a*k).tdiv 256=a*k / 256:=Int.tdiv_eq_ediv_of_nonneg h6
  rw[h7,zL (by omega) (by omega)]
  omega
 have te :∀a k:Int,-65535≤a→a≤65535→0≤k→k≤255 → -65535≤W ((W (a*k)).tdiv 256)∧W ((W (a*k)).tdiv 256)≤65535:=by
  intro a k h1 h2 h3 h4
  have h5:a*k≤65535*255:=Int.le_trans (Int.mul_le_mul_of_nonneg_right h2 h3) (Int.mul_le_mul_of_nonneg_left h4 (by decide))
  have h6 : -(65535*255)≤a*k:=by
   have:(-65535)*k≤a*k:=Int.mul_le_mul_of_nonneg_right h1 h3
   have:65535*k≤65535*255:=Int.mul_le_mul_of_nonneg_left h4 (by decide)
   omega
  have e1:W (a*k)=a*k:=zL (by omega) (by omega)
  rw[e1]
  have h7 : -65535≤(a*k).tdiv 256∧(a*k).tdiv 256≤65535:=by
   rcases Int.le_total 0 (a*k)with h|h
   ·rw[Int.tdiv_eq_ediv_of_nonneg h];omega
   ·have:(a*k).tdiv 256 = -((-(a*k)) / 256):=by
     rw[←Int.tdiv_eq_ediv_of_nonneg (by omega),Int.neg_tdiv,Int.neg_neg]
    rw[this];omega
  rw[zL (by omega) (by omega)]
  exact h7
 have hx:=tr m.x r.keep hm.x0 hm.x1 hr.keep.1 hr.keep.2
 have hy:=tr m.y r.keep hm.y0 hm.y1 hr.keep.1 hr.keep.2
 have he:=te m.e r.fade hm.e0 hm.e1 hr.fade.1 hr.fade.2
 obtain⟨m1,h1⟩ :∃m1,jV r m=m1:=⟨_,rfl⟩
 obtain⟨c,h2⟩ :∃c,chgM r m1 spike arrived=c:=⟨_,rfl⟩
 obtain⟨m2,h3⟩ :∃m2,(if r.kind=1 then pairM m1 c else rewM m1 c rw0)=m2:=⟨_,rfl⟩
 rw[gQ h1 h2 h3]
 have k1:m1.x=W ((W (m.x*r.keep)).tdiv 256)∧m1.y=W ((W (m.y*r.keep)).tdiv 256)∧m1.e=W ((W (m.e*r.fade)).tdiv 256):=by rw[←h1];exact⟨rfl,rfl,rfl⟩
 have k2:m2.x=m1.x∧m2.y=m1.y ∧ -65535≤m2.e∧m2.e≤65535:=by
  rw[←h3]
  split
  ·refine⟨rfl,rfl,?_,?_⟩
   ·show -65535≤m1.e;rw[k1.2.2];exact he.1
   ·show m1.e≤65535;rw[k1.2.2];exact he.2
  ·refine⟨rfl,rfl,?_,?_⟩
   ·show -65535≤max (-65535) (min 65535 (W (m1.e+c)));omega
   ·show max (-65535) (min 65535 (W (m1.e+c)))≤65535;omega
 have hx2:0≤m2.x∧m2.x≤65535:=by rw[k2.1,k1.1];exact hx
 have hy2:0≤m2.y∧m2.y≤65535:=by rw[k2.2.1,k1.2.1];exact hy
 have hxg:W (m2.x+r.gain)=m2.x+r.gain:=zL (by omega) (by omega)
 have hyg:W (m2.y+r.gain)=m2.y+r.gain:=zL (by omega) (by omega)
 unfold finM
 cases spike<;>cases arrived<;>simp only[Bool.false_eq_true,if_true,if_false,hxg,hyg]<;>refine⟨?_,?_,?_,?_,?_,?_,?_,?_⟩<;>simp only[]<;>omega
theorem LInv.rest {x:Lnt}{s:Lst}(hx:NetOK x)(h:LInv x s)(rw0:List Int):RestHyp x.n.S x.rs x.pl x.tot (lP x s rw0):=by
 have hl:=hx.lpl
 have hS:=hx.S1
 have key :∀i∈zD x.pl,MrkOK (x.rul i) ((lP x s rw0).getD i qW):=fun i hi=>by
  rw[lP_get hx h,if_pos hi]
  exact pMark_ok (hx.good hi) (h.mok i hi) _ _ _
 refine⟨by omega,by rw[lP_len,h.lm];omega,fun i hi=>(hx.good hi).bounds.1,fun i hi=>(hx.good hi).bounds.2.1,fun i hi=>(hx.good hi).bounds.2.2,fun i hi=>⟨(key i hi).w0,(key i hi).w1⟩,fun r p hr=> ?_⟩
 have h0:=LInv.start hx
 have hb :∀i∈zD x.pl,-255≤wAt x.m0 i∧wAt x.m0 i≤255:=fun i hi=>by
  have h1:=(h0.mok i hi).w0
  have h2:=(h0.mok i hi).w1
  have h3:=(hx.good hi).bounds
  have e:x.new.m=x.m0:=rfl
  rw[e]at h1 h2
  unfold wAt
  omega
 unfold Lnt.tot
 rw[sA x.n.S x.rs x.pl x.m0 r p hr hb (by omega)]
 refine wR fun i hi=> ?_
 obtain⟨h1,h2,h3⟩:=grp_mem.1 hi
 have e:x.rul i=x.rs.getD r.toNat jB:=by unfold Lnt.rul;rw[h2]
 have:=h0.mok i h1
 rw[e]at this
 exact⟨this.w0,this.w1⟩
theorem lR_all {x:Lnt}{s:Lst}(hx:NetOK x)(h:LInv x s)(rw0:List Int) :
  RestOK x.n.S x.rs x.pl x.tot (qH x.n.S x.rs x.pl (lP x s rw0)) (lP x s rw0) ∧
  (∀ks:List Nat,ks.Nodup→(∀k∈ks,k<(qH x.n.S x.rs x.pl (lP x s rw0)).length)→(∀k,k<(qH x.n.S x.rs x.pl (lP x s rw0)).length→k∈ks)→jZ x.n.S x.rs x.pl x.tot (qH x.n.S x.rs x.pl (lP x s rw0)) (lP x s rw0) ks=lR x s rw0) ∧
  RestRes x.n.S x.rs x.pl x.tot (lP x s rw0) (lR x s rw0):=by
 obtain⟨h1,m',h2,h3⟩:=(h.rest hx rw0).result
 have e:lR x s rw0=m':=h2 _ List.nodup_range (fun k hk=>List.mem_range.1 hk) (fun k hk=>List.mem_range.2 hk)
 exact⟨h1,fun ks a b c=>(h2 ks a b c).trans e.symm,e▸h3⟩
theorem lB_st {x:Lnt}{s:Lst}(h:s.st.length=x.n.N.length) :∀j,j≤x.n.N.length → ∀i,i<j→(nY x.n.N (lA x s).2 s.st j).1[i]? = (s.st[i]?).map fun q=>jR (x.n.N.getD i prm0) q ((lA x s).2.getD i 0)
 | 0,_,i,hi=>by omega
 |j+1,hj,i,hi=>by
  rw[vQ]
  simp only[nStep]
  by_cases e:i=j
  ·subst e
   have hl:i<(nY x.n.N (lA x s).2 s.st i).1.length:=by rw[uO];omega
   have hl2:i<s.st.length:=by omega
   have hge:=nY_ge x.n.N (lA x s).2 s.st i i (Nat.le_refl _)
   have hgd:(nY x.n.N (lA x s).2 s.st i).1.getD i jC=s.st[i]:=by rw[List.getD_eq_getElem?_getD,hge];simp[hl2]
   rw[List.getElem?_set_self hl,hgd]
   simp[hl2]
  ·rw[List.getElem?_set_ne (Ne.symm e)]
   exact lB_st h j (by omega) i (by omega)
theorem LInv.next {x:Lnt}{s:Lst}(hx:NetOK x)(h:LInv x s)(ht:s.tick<4611686018427387904)(inputs rw0:List Int):LInv x (lN x s inputs rw0):=by
 obtain⟨_,_,hr⟩:=lR_all hx h rw0
 have hw:W (s.tick+1)=s.tick+1:=by have:=h.t0;exact zL (by omega) (by omega)
 refine⟨?_,(uO ..).trans h.lst,fun i hi hi'=> ?_,by show(lR x s rw0).length=_;rw[hr.len,lP_len,h.lm],fun i hi=> ?_,fun i hi=> ?_⟩
 ·show 0≤W (s.tick+1);rw[hw];have:=h.t0;omega
 ·have hl:i<s.st.length:=by rw[h.lst];exact hi
  have e:=lB_st h.lst x.n.N.length (Nat.le_refl _) i hi
  have e2:(lN x s inputs rw0).st[i]=jR (x.n.N.getD i prm0) s.st[i] ((lA x s).2.getD i 0):=by
   have:(lN x s inputs rw0).st[i]? = some (jR (x.n.N.getD i prm0) s.st[i] ((lA x s).2.getD i 0)):=by
    refine e.trans ?_
    simp[hl]
   exact(List.getElem?_eq_some_iff.1 this).2
  rw[e2]
  have e3:x.n.N.getD i prm0=x.n.N[i]:=by simp[List.getD_eq_getElem?_getD,hi]
  rw[e3]
  exact vld_step (h.vok i hi hl) _
 ·have hm:MrkOK (x.rul i) ((lP x s rw0).getD i qW):=by
   rw[lP_get hx h,if_pos hi]
   exact pMark_ok (hx.good hi) (h.mok i hi) _ _ _
  have hb:=hr.inb i hi
  show MrkOK _ ((lR x s rw0).getD i qW)
  rw[hr.fld i]
  exact⟨hb.1,hb.2,hm.x0,hm.x1,hm.y0,hm.y1,hm.e0,hm.e1⟩
 ·show(lR x s rw0).getD i qW=_
  rw[hr.same i (.inl hi),lP_get hx h,if_neg hi]
  exact h.oth i hi
theorem sumsL_int (S:List Syn)(rs:List Rul)(pl:List Int)(m:List Mrk):KInt (qH S rs pl m):=by
 have:=sC S rs pl m (zD pl).length
 unfold kU at this
 rw[List.take_length]at this
 exact this
def lM (x:Lnt)(C:List SV)(s:Lst):List (Nat×SObj):=stepM C x.n.N x.n.S s.st x.rs x.pl s.m x.tot s.sm
def lC (x:Lnt)(s:Lst):List SV:=qJ (ii s.tick) x.n.inp (fun k=>.mp (8+k)) (.mp 7)
theorem lstep_spec {x:Lnt}{s:Lst}(hx:NetOK x)(h:LInv x s)(ht:s.tick<4611686018427387904)(inputs rw0:List Int)(hi:inputs.length<4611686018427387904)(hrw:rw0.length=x.rs.length) :
  BSpec Try.prog 52 [.ptr 0 0,.opq 24,.opq 25] (lM x (lC x s) s++[(24,.rwin 1 inputs.length (qD inputs)),(25,.rwin 1 rw0.length (qD rw0))]) 26 [0,3,6] (.opq 27)
   ([(26,.kmap false true (qA (x9 (lB x s).2.2 inputs))),(27,.row 1 (lOut x s).length ((lOut x s).map fun x=>ii x) 3)] ++
    stepM (qJ (ii (W (s.tick+1))) x.n.inp (fun j=>.mp (if j=zE s.tick then 26 else 8+j)) (.mp 7)) x.n.N x.n.S (lB x s).1 x.rs x.pl (lR x s rw0) x.tot s.sm) 28:=by
 obtain⟨h1,h2,_⟩:=lR_all hx h rw0
 have hl:=hx.lpl
 have hN:=hx.N2
 have hS:=hx.S1
 exact step_spec s.tick x.n.inp x.n.N x.n.S s.st x.rs x.pl s.m (lR x s rw0) x.tot s.sm inputs rw0
  ⟨h.t0,ht,hl,h.lm,h.lst,hrw,hS,hN,hi,hx.to0,hx.to1,hx.d0,hx.d1,hx.p1,fun i hi=>(hx.rul i hi).kind,fun i hi=>(hx.rul i hi).shift.1,h.vok⟩ (sumsL_int x.n.S x.rs x.pl x.m0) h1 h2
end Go.Proofs.Ytnnlpdgnlccbjaa
namespace Go.Sx
def shR (r:Nat→Nat)(B n i:Nat):Nat:=
 match Nat.blt i B with
 |true=>r i
 |false=>n+(i-B)
theorem shR_lt {r:Nat→Nat}{B n i:Nat}(h:i<B):shR r B n i=r i:=by
 unfold shR;rw[show Nat.blt i B=true by simpa[Nat.blt_eq]using h]
theorem shR_ge {r : Nat → Nat} {B n i : Nat} (h : B ≤ i) : shR r B n i = n + (i - B) := by
  unfold shR
  have : Nat.blt i B = false := by
    cases hb : Nat.blt i B with
    | false => rfl
    | true => have : i < B := by simpa [Nat.blt_eq] using hb
              omega
  rw [this]
theorem Env.rV {r:Nat→Nat}{ρ ρ':Env}{B n:Nat}(hr :∀i,i<B→r i<n)(hag:Env.agree (· < B) (ρ.ren r) ρ'):(ρ.join B n ρ').ren (shR r B n)=ρ':=by
 have key :∀i,(ρ.join B n ρ').s (shR r B n i)=ρ'.s i∧(ρ.join B n ρ').o (shR r B n i)=ρ'.o i∧(ρ.join B n ρ').h (shR r B n i)=ρ'.h i:=by
  intro i
  rcases Nat.lt_or_ge i B with h|h
  ·rw[shR_lt h]
   obtain⟨a1,a2,a3⟩:=hag i h
   have:=hr i h
   simp only[Env.join,if_pos this]
   exact⟨a1.symm,a2.symm,a3.symm⟩
  ·rw[shR_ge h]
   have e1 :¬n+(i-B)<n:=by omega
   have e2:n+(i-B)-n+B=i:=by omega
   simp only[Env.join,if_neg e1,e2,and_self]
 cases ρ' with
 |mk s o h=>
  unfold Env.ren
  congr 1
  ·funext i;exact(key i).1
  ·funext i;exact(key i).2.1
  ·funext i;exact(key i).2.2
theorem WI.mergeR {w0 w w':World}{L L':List (Nat×Nat)}{ρ ρ':Env}{M M1:List (Nat×SObj)}{n n1 B:Nat}{r:Nat→Nat}(hW:WI w0 L ρ (look M) (· < n) w)(hr :∀i,i<B→r i<n)(hC:WI w L' ρ' (look M1) (· < n1) w')(hB1:B≤n1)(hag:Env.agree (· < B) (ρ.ren r) ρ')
  (hL' :∀p∈L',p.1<B ∧ ∃o,look M (r p.1)=some o∧o.occ ρ (r p.1)) (M2:List (Nat×SObj))
  (hM2 :∀x∈M2,(look M x.1=some x.2 ∧ ∀p∈L',r p.1≠x.1) ∨ ∃i o,shR r B n i=x.1∧look M1 i=some o∧x.2=o.ren (shR r B n)∧o.wnd=false) :
  WI w0 L (ρ.join B n ρ') (look M2) (· < n+(n1-B)) w'∧Env.agree (· < n) ρ (ρ.join B n ρ'):=by
 have hj:=ρ.join_agree B n ρ'
 have hrr:=Env.rV hr hag
 have hLs :∀p∈L',p.2=ρ.s (r p.1):=fun p hp=>by rw[←(hC.lid p hp).2,(hag p.1 (hL' p hp).1).1];rfl
 have hup :∀i,i<n→i<n+(n1-B):=fun i hi=>by omega
 have kept :∀i o,look M i=some o→(∀p∈L',r p.1≠i)→i<n+(n1-B)∧o.sc (· < n+(n1-B))∧o.holds w0 L (ρ.join B n ρ') i w':=by
  intro i o hi hp
  obtain⟨g1,g2,g3⟩:=hW.mem i o hi
  refine⟨hup i g1,SObj.sc_mono hup g2,SObj.rG hj g1 g2 (fun ho=>hC.keep _ (SObj.rE g3 ho) fun p hp' he=> ?_) g3⟩
  obtain⟨_,o2,ho2,hocc2⟩:=hL' p hp'
  exact hW.dist (r p.1) i o2 o ho2 hi (hp p hp') hocc2 ho ((hLs p hp').symm.trans he)
 have keptB :∀i o,look M i=some o→o.occ (ρ.join B n ρ') i→o.occ ρ i:=fun i o hi ho=>(SObj.rA hj (hW.mem i o hi).1).1 ho
 have theirs :∀i o,look M1 i=some o→o.wnd=false→shR r B n i<n+(n1-B)∧(o.ren (shR r B n)).sc (· < n+(n1-B))∧(o.ren (shR r B n)).holds w0 L (ρ.join B n ρ') (shR r B n i) w':=by
  intro i o hi hwd
  obtain⟨g1,g2,g3⟩:=hC.mem i o hi
  have hs :∀k,k<n1→shR r B n k<n+(n1-B):=by
   intro k hk
   rcases Nat.lt_or_ge k B with h|h
   ·rw[shR_lt h];have:=hr k h;omega
   ·rw[shR_ge h];omega
  refine⟨hs i g1,SObj.sc_ren hs g2,?_⟩
  rw[holds_ren,hrr]
  cases o<;>first
   |exact g3
   |cases hwd
 have theirB :∀(i:Nat) (o:SObj),(o.ren (shR r B n)).occ (ρ.join B n ρ') (shR r B n i)→o.occ ρ' i:=fun i o ho=>by
  have:=(occ_ren (ρ:=ρ.join B n ρ') (r:=shR r B n) (i:=i) (o:=o)).1 ho
  rwa [hrr]at this
 have theirS :∀i,(ρ.join B n ρ').s (shR r B n i)=ρ'.s i:=fun i=>by
  have:=congrArg Env.s hrr
  exact congrFun this i
 have place :∀i o,look M1 i=some o→o.occ ρ' i→(∃p∈L',p.2=ρ'.s i)∨w.heap.size≤ρ'.s i:=fun i o hi ho=>hC.new i o hi ho
 have cross :∀i o j o',look M i=some o→(∀p∈L',r p.1≠i)→o.occ ρ i→look M1 j=some o'→o'.occ ρ' j→ρ.s i≠ρ'.s j:=by
  intro i o j o' hi hp ho hj' ho' he
  rcases place j o' hj' ho' with⟨p,hp',hpe⟩|hge
  ·obtain⟨_,o2,ho2,hocc2⟩:=hL' p hp'
   exact hW.dist (r p.1) i o2 o ho2 hi (hp p hp') hocc2 ho (by rw[he,←hpe,hLs p hp'])
  ·have:=SObj.rE (hW.mem i o hi).2.2 ho
   omega
 refine⟨⟨fun i o hi=> ?_,fun i j oi oj hi hj' hne ho ho'=> ?_,fun i o hi ho=> ?_,fun p hp=> ?_,fun k hk hL=> ?_,Nat.le_trans hW.size hC.size,hC.os.trans hW.os,hC.tape.trans hW.tape,hC.output.trans hW.output⟩,hj⟩
 ·rcases hM2 _ (qF hi)with⟨h1,h2⟩|⟨i',o',h1,h2,h3,h4⟩
  ·exact kept i o h1 h2
  ·simp only at h1 h3
   subst h1 h3
   exact theirs i' o' h2 h4
 ·rcases hM2 _ (qF hi)with⟨a1,a2⟩|⟨i',oi',a1,a2,a3,a4⟩
  ·rcases hM2 _ (qF hj')with⟨b1,b2⟩|⟨j',oj',b1,b2,b3,b4⟩
   ·rw[(hj i (hW.mem i oi a1).1).1,(hj j (hW.mem j oj b1).1).1]
    exact hW.dist i j oi oj a1 b1 hne (keptB i oi a1 ho) (keptB j oj b1 ho')
   ·simp only at b1 b3
    subst b1 b3
    rw[(hj i (hW.mem i oi a1).1).1,theirS]
    exact cross i oi j' oj' a1 a2 (keptB i oi a1 ho) b2 (theirB j' oj' ho')
  ·simp only at a1 a3
   subst a1 a3
   rcases hM2 _ (qF hj')with⟨b1,b2⟩|⟨j',oj',b1,b2,b3,b4⟩
   ·rw[(hj j (hW.mem j oj b1).1).1,theirS]
    exact(cross j oj i' oi' b1 b2 (keptB j oj b1 ho') a2 (theirB i' oi' ho)).symm
   ·simp only at b1 b3
    subst b1 b3
    rw[theirS,theirS]
    exact hC.dist i' j' oi' oj' a2 b2 (fun e=>hne (by rw[e])) (theirB i' oi' ho) (theirB j' oj' ho')
 ·rcases hM2 _ (qF hi)with⟨a1,a2⟩|⟨i',oi',a1,a2,a3,a4⟩
  ·rw[(hj i (hW.mem i o a1).1).1]
   exact hW.new i o a1 (keptB i o a1 ho)
  ·simp only at a1 a3
   subst a1 a3
   rw[theirS]
   rcases place i' oi' a2 (theirB i' oi' ho)with⟨p,hp,hpe⟩|hge
   ·obtain⟨_,o2,ho2,hocc2⟩:=hL' p hp
    rw[←hpe,hLs p hp]
    exact hW.new (r p.1) o2 ho2 hocc2
   ·right;have:=hW.size;omega
 ·obtain⟨h1,h2⟩:=hW.lid p hp
  exact⟨hup _ h1,by rw[(hj _ h1).1,h2]⟩
 ·rw[hC.keep k (by have:=hW.size;omega) (fun p hp he=> ?_)]
  ·exact hW.keep k hk hL
  ·obtain⟨_,o2,ho2,hocc2⟩:=hL' p hp
   rcases hW.new (r p.1) o2 ho2 hocc2 with⟨p',hp',hpe⟩|hge
   ·exact hL p' hp' (by rw[hpe,←hLs p hp,he])
   ·rw[←hLs p hp,he]at hge;omega
theorem WI.enterR {w0 w:World}{L:List (Nat×Nat)}{ρ:Env}{M:List (Nat×SObj)}{n:Nat}(hW:WI w0 L ρ (look M) (· < n) w)(r:Nat→Nat)(Mc:List (Nat×SObj))(B:Nat)(is:List Nat)(hinj :∀i,i<B → ∀j,j<B→i≠j→r i≠r j)
  (hMc:AllP (fun x=>x.1<B∧x.2.sc (· < B)∧(∃o,look M (r x.1)=some o∧Conv o (x.2.ren r))∧(x.2.wnd=true∨x.1∈is)∧(x.2.wnd=true→x.1∉is)) Mc) (his :∀i∈is,i<B ∧ ∃o,look Mc i=some o) :
  ∃L',(∀p∈L',p.1∈is∧p.2=ρ.s (r p.1) ∧ ∃o,look M (r p.1)=some o∧o.occ ρ (r p.1))∧WI w L' (ρ.ren r) (look Mc) (· < B) w:=by
 classical
 let L':List (Nat×Nat):=(is.filter fun i=>decide (∃o,look M (r i)=some o∧o.occ ρ (r i))).map fun i=>(i,ρ.s (r i))
 have hL' :∀p∈L',p.1∈is∧p.2=ρ.s (r p.1) ∧ ∃o,look M (r p.1)=some o∧o.occ ρ (r p.1):=by
  intro p hp
  obtain⟨i,hi,rfl⟩:=List.mem_map.1 hp
  obtain⟨h1,h2⟩:=List.mem_filter.1 hi
  exact⟨h1,rfl,of_decide_eq_true h2⟩
 refine⟨L',hL',?_⟩
 refine hW.again ((Ext.refl w).modF fun _=>False) r L' Mc B (fun p hp=> ?_) (fun x hx=> ?_) (fun x hx y hy h=>hinj _ (hMc.mem x hx).1 _ (hMc.mem y hy).1 h)
 ·obtain⟨h1,h2,h3⟩:=hL' p hp
  obtain⟨h4,o,h5⟩:=his p.1 h1
  exact⟨h4,h2,⟨_,qF h5,rfl⟩,h3⟩
 ·obtain⟨h1,h2,⟨o,h3,h4⟩,h5,h6⟩:=hMc.mem x hx
  refine⟨h1,h2,fun ho=> ?_,o,h3,h4,?_,fun hwd p hp he=>h6 hwd (by rw[←he];exact(hL' p hp).1)⟩
  ·rcases h5 with h5|h5
   ·exfalso
    cases hx2:x.2<;>rw[hx2]at h5 ho<;>first|cases h5;done|exact ho.elim
   ·refine⟨(x.1,ρ.s (r x.1)),List.mem_map.2 ⟨x.1,List.mem_filter.2 ⟨h5,decide_eq_true ⟨o,h3,?_⟩⟩,rfl⟩,rfl⟩
    rcases h4 with h4|⟨e,m,t,vs,_,_,h4⟩|⟨pk,nn,l,_,h4⟩
    ·rw[←h4];exact occ_ren.2 ho
    ·have:=(occ_ren (ρ:=ρ) (r:=r) (i:=x.1) (o:=x.2)).2 ho
     rw[h4]at this;exact this.elim
    ·have:=(occ_ren (ρ:=ρ) (r:=r) (i:=x.1) (o:=x.2)).2 ho
     rw[h4]at this;exact this.elim
  ·cases o<;>simp[SObj.away]
theorem Run.rI {c:Cx}{T:List (Nat×SV)}{M:List (Nat×SObj)}{n:Nat}{D:List Deferred}{ops:Array Oper}{i:Nat}{r:List Nat}{k:List Item}{R:Ending→World→Prop}{o:Oper}{f:Operand}{args:Array Operand}{ts:Array TypeId}
  {fv:SV} {g:FuncId} {caps caps2 vs:List SV} {Mc:List (Nat×SObj)} {B:Nat} {is:List Nat} {v:SV} {M1:List (Nat×SObj)} {n1:Nat} (hspec:BSpec c.P g (vs++caps) Mc B is v M1 n1) (hg:zU c.P g)
  (ho:get ops.toList i=some o) (hop:o.op = .call { callee:=.value f,args:=args,argTypes:=ts }) (hw:zQ ops.toList (look T) o=some true) (hd:okD c.fn.ntmps o.dst=true)
  (hf:ev (look T) f=some fv) (hfv:zW fv=some (g,caps2)) (vs2:List SV) (hvs:evs (look T) args.toList=some vs2) (rn:Nat→Nat) (hvr:SV.rens rn (vs++caps)=vs2++caps2) (hr :∀i,i<B→rn i<n) (hinj :∀i,i<B → ∀j,j<B→i≠j→rn i≠rn j) (hB1:B≤n1)
  (hMc:AllP (fun x=>x.1<B∧x.2.sc (· < B)∧(∃o,look M (rn x.1)=some o∧Conv o (x.2.ren rn))∧(x.2.wnd=true∨x.1∈is)∧(x.2.wnd=true→x.1∉is)) Mc) (his :∀i∈is,i<B ∧ ∃o,look Mc i=some o)
  (v2:SV) (M2:List (Nat×SObj)) (n2:Nat) (hv2:v2=v.ren (shR rn B n)) (hn2:n2=n+(n1-B)) (hM2:AllP (fun x=>(look M x.1=some x.2 ∧ ∀i∈is,rn i≠x.1) ∨ ∃i o,shR rn B n i=x.1∧look M1 i=some o∧x.2=o.ren (shR rn B n)∧o.wnd=false) M2)
  (h:Run c ⟨z5 T o.dst v2,M2,n2,D,.inRegion ops r::k⟩ R):Run c ⟨T,M,n,D,.inRegion ops (i::r)::k⟩ R:=by
 subst hv2 hn2
 refine Run.rN ho hop hw hd hf hfv hvs hg (fun v' M' n'=>v'=v.ren (shR rn B n)∧M'=M2∧n'=n+(n1-B)) (fun ρ w _ hW=> ?_) (fun v' M' n' hp=> ?_)
 ·obtain⟨L',hL',hWc⟩:=hW.enterR rn Mc B is hinj hMc his
  have hcall:=hspec (ρ.ren rn) w L' hWc fun p hp=>(hL' p hp).1
  rw[←kD,hvr]at hcall
  refine hcall.mono fun e w' ⟨ρ',he,hv,hag,hW'⟩=> ?_
  obtain⟨hW2,hag2⟩:=hW.mergeR hr hW' hB1 hag (fun p hp=>⟨(his _ (hL' p hp).1).1,(hL' p hp).2.2⟩) M2 (fun x hx=>by
   rcases hM2.mem x hx with⟨h1,h2⟩|h1
   ·exact .inl ⟨h1,fun p hp=>h2 _ (hL' p hp).1⟩
   ·exact .inr h1)
  refine⟨ρ.join B n ρ',_,_,_,?_,hag2,by omega,?_,hW2,rfl,rfl,rfl⟩
  ·rw[he,kC,Env.rV hr hag]
  ·refine SV.sc_ren (fun j (hj:j<n1)=> ?_) v hv
   show shR rn B n j<n+(n1-B)
   rcases Nat.lt_or_ge j B with h|h
   ·rw[shR_lt h];have:=hr j h;omega
   ·rw[shR_ge h];omega
 ·obtain⟨rfl,rfl,rfl⟩:=hp;exact h
def SObj.isRow:SObj→Bool
 | .row _ _ _ _=>true
 |_=>false
def NilKd (o:SObj):Prop:=(∃e te,o = .row e 0 [] te) ∨ ∃pk,o = .kmap pk false []
def Env.nils (ρ:Env)(n:Nat)(kd:Nat→SObj):Env where
 s j:=if j<n then ρ.s j else 0
 o j:=if j<n then ρ.o j else match (kd (j-n)).isRow with
  |true=>0
  |false=>1
 h j:=if j<n then ρ.h j else(none,0,0)
theorem Env.nils_agree (ρ:Env)(n:Nat)(kd:Nat→SObj):Env.agree (· < n) ρ (ρ.nils n kd):=fun i (hi:i<n)=>by simp[Env.nils,hi]
def NilV (n p:Nat)(kd:Nat→SObj)(v v':SV):Prop:=
 v'=v∨(v=nq ∧ ∃k,k<p∧v' = .opq (n+k))∨(v = .v (.map none) ∧ ∃k,k<p∧(kd k).isRow=false∧v' = .mp (n+k))
def NilVs (n p:Nat)(kd:Nat→SObj):List SV→List SV→Prop
 | [],[]=>True
 |a::l,b::l'=>NilV n p kd a b∧NilVs n p kd l l'
 |_,_=>False
def NilOs (n p:Nat)(kd:Nat→SObj)(o o':SObj):Prop:=o'=o ∨ ∃cs cs' t,o = .cells cs t∧o' = .cells cs' t∧NilVs n p kd cs cs'
theorem Run.nils {c:Cx}{T T':List (Nat×SV)}{M M':List (Nat×SObj)}{n:Nat}{D:List Deferred}{todo:List Item}{R:Ending→World→Prop}(p:Nat)(kd:Nat→SObj)(hkd :∀k,k<p→NilKd (kd k))
  (hT:AllP (fun x=> ∃v,look T x.1=some v∧NilV n p kd v x.2) T') (hM:AllP (fun x=>(∃k,k<p∧x=(n+k,kd k)) ∨ ∃o,look M x.1=some o∧NilOs n p kd o x.2) M')
  (h:Run c ⟨T',M',n+p,D,todo⟩ R):Run c ⟨T,M,n,D,todo⟩ R:=by
 refine⟨fun ρ a w hi=> ?_⟩
 have ha:=ρ.nils_agree n kd
 have hh :∀k,(ρ.nils n kd).h (n+k)=(none,0,0):=fun k=>by simp only[Env.nils,if_neg (show ¬n+k<n by omega)]
 have ho :∀k,(kd k).isRow=false→(ρ.nils n kd).o (n+k)=1:=fun k hk=>by
  simp only[Env.nils,if_neg (show ¬n+k<n by omega),Nat.add_sub_cancel_left,hk]
 have ho2 :∀k,(kd k).isRow=true→(ρ.nils n kd).o (n+k)=0:=fun k hk=>by
  simp only[Env.nils,if_neg (show ¬n+k<n by omega),Nat.add_sub_cancel_left,hk]
 have up :∀q,q<n→q<n+p:=fun q hq=>by omega
 have hval :∀v v',SV.sc (· < n) v→NilV n p kd v v'→v'.conc (ρ.nils n kd)=v.conc ρ∧v'.sc (· < n+p):=by
  rintro v v' hs (rfl|⟨rfl,k,hk,rfl⟩|⟨rfl,k,hk,hr,rfl⟩)
  ·exact⟨zY ha _ hs,SV.sc_mono up _ hs⟩
  ·exact⟨by simp[SV.conc,hh],by show n+k<n+p;omega⟩
  ·exact⟨by simp[SV.conc,ho k hr],by show n+k<n+p;omega⟩
 have hvals :∀cs cs',SV.scs (· < n) cs→NilVs n p kd cs cs'→SV.concs (ρ.nils n kd) cs'=SV.concs ρ cs∧SV.scs (· < n+p) cs':=by
  intro cs
  induction cs with
  |nil=>intro cs' _ h;cases cs' with
   |nil=>exact⟨rfl,trivial⟩
   |cons _ _=>exact h.elim
  |cons v l ih=>intro cs' hs h;cases cs' with
   |nil=>exact h.elim
   |cons v' l'=>
    obtain⟨a1,a2⟩:=hval v v' hs.1 h.1
    obtain⟨b1,b2⟩:=ih l' hs.2 h.2
    exact⟨by simp only[SV.concs,a1,b1],a2,b2⟩
 have hcase :∀kk o,look M' kk=some o→(∃k,k<p∧kk=n+k∧o=kd k)∨(kk<n ∧ ∃o0,look M kk=some o0∧NilOs n p kd o0 o):=by
  intro kk o hk
  rcases hM.mem _ (qF hk)with⟨k,hkp,hx⟩|⟨o0,h1,h2⟩
  ·simp only[Prod.mk.injEq]at hx;exact .inl ⟨k,hkp,hx.1,hx.2⟩
  ·exact .inr ⟨(hi.wi.mem _ _ h1).1,o0,h1,h2⟩
 have hoccK :∀k,k<p → ¬(kd k).occ (ρ.nils n kd) (n+k):=by
  intro k hk hc
  rcases hkd k hk with⟨e,te,h⟩|⟨pk,h⟩
  ·rw[h]at hc
   have hc:((ρ.nils n kd).h (n+k)).1≠none:=hc
   rw[hh]at hc;exact hc rfl
  ·rw[h]at hc
   have hc:(ρ.nils n kd).o (n+k)=0:=hc
   rw[ho k (by rw[h];rfl)]at hc;exact absurd hc (by decide)
 have hocc :∀{kk:Nat} {o0 o:SObj},look M kk=some o0→NilOs n p kd o0 o→o.occ (ρ.nils n kd) kk→o0.occ ρ kk:=by
  intro kk o0 o hk hno hc
  rcases hno with rfl|⟨cs,cs',t,rfl,rfl,_⟩
  ·exact(SObj.rA ha (hi.wi.mem kk _ hk).1).1 hc
  ·trivial
 refine h.go (ρ.nils n kd) a w ⟨hi.sz,?_,hi.df,⟨?_,?_,?_,?_,hi.wi.keep,hi.wi.size,hi.wi.os,hi.wi.tape,hi.wi.output⟩⟩
 ·intro t v ht
  obtain⟨v0,h1,h2⟩:=hT.mem _ (qF ht)
  obtain⟨g1,g2,g3⟩:=hi.tm t v0 h1
  obtain⟨k1,k2⟩:=hval v0 v g3 h2
  exact⟨g1,by rw[k1];exact g2,k2⟩
 ·intro kk o hk
  rcases hcase kk o hk with⟨k,hkp,rfl,rfl⟩|⟨hlt,o0,h1,h2⟩
  ·refine⟨by show n+k<n+p;omega,?_,?_⟩
   ·rcases hkd k hkp with⟨e,te,h⟩|⟨pk,h⟩<;>rw[h]<;>trivial
   ·rcases hkd k hkp with⟨e,te,h⟩|⟨pk,h⟩
    ·have:=ho2 k (by rw[h];rfl)
     rw[h]
     exact⟨this,by simp,.inl ⟨hh k,rfl⟩⟩
    ·have:=ho k (by rw[h];rfl)
     rw[h]
     exact⟨(fun x hx=>absurd hx (by simp)),.inr ⟨rfl,by omega,rfl⟩⟩
  ·obtain⟨g1,g2,g3⟩:=hi.wi.mem kk o0 h1
   have g1':kk<n:=g1
   rcases h2 with rfl|⟨cs,cs',t,rfl,rfl,hn⟩
   ·exact⟨up _ g1',SObj.sc_mono up g2,SObj.rG ha g1 g2 (fun _=>rfl) g3⟩
   ·obtain⟨b1,b2⟩:=hvals cs cs' g2 hn
    obtain⟨e1,e2,_⟩:=ha kk g1'
    refine⟨up _ g1',b2,?_⟩
    simp only[SObj.holds]at g3 ⊢
    rw[e1,e2,b1];exact g3
 ·intro i j oi oj hi' hj' hne ho' ho''
  rcases hcase i oi hi' with⟨k,hkp,rfl,rfl⟩|⟨hlt,o0,h1,h2⟩
  ·exact absurd ho' (hoccK k hkp)
  ·rcases hcase j oj hj' with⟨k,hkp,rfl,rfl⟩|⟨hlt',o1,h1',h2'⟩
   ·exact absurd ho'' (hoccK k hkp)
   ·rw[(ha i hlt).1,(ha j hlt').1]
    exact hi.wi.dist i j o0 o1 h1 h1' hne (hocc h1 h2 ho') (hocc h1' h2' ho'')
 ·intro i o hi' ho'
  rcases hcase i o hi' with⟨k,hkp,rfl,rfl⟩|⟨hlt,o0,h1,h2⟩
  ·exact absurd ho' (hoccK k hkp)
  ·rw[(ha i hlt).1]
   exact hi.wi.new i o0 h1 (hocc h1 h2 ho')
 ·intro q hq
  obtain⟨h1,h2⟩:=hi.wi.lid q hq
  have h1':q.1<n:=h1
  exact⟨up _ h1',by rw[(ha q.1 h1').1,h2]⟩
theorem SpecR.rT {c:Cx}{Lo:List (Nat×Nat)}{M M1:List (Nat×SObj)}{n n1 B:Nat}{pl:List (Nat×Nat×Nat×(Option Addr×Nat×Nat))}{v v0:SV}(r:Nat→Nat)(hr :∀i,i<B→r i=i)(hinj :∀i,i<n1 → ∀j,j<n1→i≠j→r i≠r j)(hwid:Widens c.w0 Lo c.L)(hL :∀p∈Lo,p.1<B)(hB:B≤n1)(hcov:jW B pl)(hq:look M B=some (.pin pl))(hv:v.ren r=v0)(hvs:v.sc (· < n1))
  (hM1:AllP (fun x=>look M (r x.1)=some (x.2.ren r)∧x.1<n1∧x.2.sc (· < n1)) M1):RetOk c M n v0 (SpecR c.w0 Lo pl v M1 n1):=by
 refine⟨fun ρ w hW _=>⟨ρ.ren r,by rw[←hv,kC],hvs,fun p hp=> ?_,WI.less (r:=r) ⟨hM1.mem,fun x hx y hy h=>hinj _ (hM1.mem x hx).2.1 _ (hM1.mem y hy).2.1 h,fun p hp=>⟨hr _ (hL p hp),by have:=hL p hp;omega⟩⟩ (hW.narrow hwid)⟩⟩
 have h1:=hcov.1 p hp
 have h2:=(hW.mem B _ hq).2.2 p hp
 simp only[Env.ren,hr _ h1]
 exact h2
end Go.Sx
namespace Go.Proofs.Ytnnlpdgnlccbjaa
open Go.Sx
set_option maxRecDepth 100000
set_option maxHeartbeats 4000000
def FCl (e te:Nat):Mem→List SV→Option (List Nat×SV):=fun M args=>match args with
 | [.opq j]=>match M j with
  |some (.rwin e2 n vs)=>if e2=e∧n≤1000000∧(∀u∈vs,u.oneCell'=true)then some ([e,n,te],.agg (vs.map .v))else none
  |some (.row e2 n xs _)=>if e2=e∧n≤1000000∧xP xs=true then some ([e,n,te],.agg xs)else none
  |_=>none
 |_=>none
theorem ones_conc {ρ:Env} :∀{l:List SV},xP l=true → ∀u∈SV.concs ρ l,u.oneCell'=true:=by
 intro l h u hu
 rw[z3]at hu
 obtain⟨v,hv,rfl⟩:=List.mem_map.1 hu
 exact wD (kK h v hv)
theorem Maker.clone {g:FuncId}{e te:Nat}(he:0<e)(hg:zU Try.prog g)(h :∀(v:Value) (n:Nat) (vs:List Value) (w:World),RowsAt w v e n vs→(∀u∈vs,u.oneCell'=true)→n≤1000000→Calls Try.prog g #[v] w (kB te e n vs w)):Maker Try.prog g (FCl e te) where
 ent:=hg
 cong M M' args hb:=by
  unfold FCl
  split
  ·rename_i j
   rw[hb (.opq j) (by simp) j (by simp[yK])]
  ·rfl
 run w0 L ρ M S args e2 m te2 xs w hW hF hs:=by
  unfold FCl at hF
  split at hF
  case h_2=>cases hF
  rename_i j
  split at hF
  ·rename_i e3 n vs hM
   split at hF
   case isFalse=>cases hF
   rename_i hc
   obtain⟨rfl,h1,h2⟩:=hc
   simp only[Option.some.injEq,Prod.mk.injEq,List.cons.injEq,SV.agg.injEq,and_true]at hF
   obtain⟨⟨rfl,rfl,rfl⟩,rfl⟩:=hF
   exact⟨qL S vs,(h _ n vs w (hW.rowsAt hM) h2 h1).mono fun en w' hp=>by rw[zN];exact hp⟩
  ·rename_i e3 n xs2 t2 hM
   split at hF
   case isFalse=>cases hF
   rename_i hc
   obtain⟨rfl,h1,h2⟩:=hc
   simp only[Option.some.injEq,Prod.mk.injEq,List.cons.injEq,SV.agg.injEq,and_true]at hF
   obtain⟨⟨rfl,rfl,rfl⟩,rfl⟩:=hF
   exact⟨(hW.mem j _ hM).2.1,h _ n _ w (hW.rowsAtR hM he) (ones_conc h2) h1⟩
  ·cases hF
 runM w0 L ρ M S args pk w _ hF _:=by
  exfalso
  unfold FCl at hF
  split at hF
  ·split at hF
   ·split at hF
    ·cases hF
    ·cases hF
   ·split at hF
    ·cases hF
    ·cases hF
   ·cases hF
  ·cases hF
theorem uC {e te n:Nat}{vs:List Value}{M:Mem}{j:Nat}(hM:M j=some (.rwin e n vs))(hn:n≤1000000)(h1 :∀u∈vs,u.oneCell'=true):FCl e te M [.opq j]=some ([e,n,te],.agg (vs.map .v)):=by
 unfold FCl
 simp only[hM]
 rw[if_pos ⟨trivial,hn,h1⟩]
theorem mk_rules:Maker Try.prog 62 (FCl 10 36):=Maker.clone (by decide) (ent _ _ Try.func62 (by kernel_rfl) rfl) cloneRules
theorem mk_ints:Maker Try.prog 63 (FCl 1 3):=Maker.clone (by decide) (ent _ _ Try.func63 (by kernel_rfl) rfl) cloneInts
theorem wH:Maker Try.prog 64 (FCl 8 60):=Maker.clone (by decide) (ent _ _ Try.func64 (by kernel_rfl) rfl) cloneParams
theorem mk_syns:Maker Try.prog 65 (FCl 4 55):=Maker.clone (by decide) (ent _ _ Try.func65 (by kernel_rfl) rfl) cloneSyns
theorem xT {tab:Tab}{pf:PF}{T:Tm}{M:Mem}{n:Nat}{f:Operand}{args:Array Operand}{ts:Array TypeId}{fv:SV}{g:FuncId}{vs:List SV}{F:Mem→List SV→Option (List Nat×SV)}{e m te:Nat}{xs:List SV}(hf:ev T f=some fv)(hfv:zW fv=some (g,[]))(hg:Sx.look pf g=none)(hg2:Sx.look pf (g+1000)=some F)(hvs:evs T args.toList=some vs)(hF:F M vs=some ([e,m,te],.agg xs))(hgb:Nat.blt g 1000=true:=by rfl) :
  opF tab pf T M n (.call { callee:=.value f,args:=args,argTypes:=ts })=some (.new (.opq n) (.row e m xs te)):=by
 simp only[opF,wE,hf,hfv,hgb,hg,gA,hg2,hvs,hF]
theorem yA {tab:Tab}{pf:PF}{T:Tm}{M:Mem}{n m bytes:Nat}{t te:TypeId}{x y:Operand}{ti tie:TI}{kx ky:IntKind}{z0 z1:Value}(ht:Sx.look tab t=some ti)(hs:ti.sh = .slc te 2 bytes)(hte:Sx.look tab te=some tie)(hz:tie.zero=[z0,z1])
  (hx:ev T x=some (.v (.int kx (m:Int)))) (hy:ev T y=some (.v (.int ky (m:Int)))) (hb:bytes*m≤281474976710656) (hm:m≤8388608):opF tab pf T M n (.makeSlice t x y)=some (.new (.opq n) (.row 2 m ((List.replicate m ()).flatMap fun _=>[.v z0,.v z1]) te)):=by
 simp only[opF,opMake,ht,hs,hte,hz,hx,hy,Int.toNat_natCast]
 rw[decide_eq_true (p:=0≤(m:Int)∧True∧bytes*m≤281474976710656∧(m:Int)≤8388608) ⟨by omega,trivial,hb,by omega⟩]
theorem one_vals {α : Type}{f : α → List Value}(hf :∀a,∀u∈f a,u.oneCell'=true)(l:List α) :∀u∈l.flatMap f,u.oneCell'=true:=fun u hu=>by
 obtain⟨a,_,h⟩:=List.mem_flatMap.1 hu
 exact hf a u h
theorem one_prm (l:List Prm) :∀u∈l.flatMap Prm.vals,u.oneCell'=true:=one_vals (fun a u hu=>by simp[Prm.vals]at hu;rcases hu with rfl|rfl|rfl|rfl|rfl|rfl|rfl|rfl<;>rfl) l
theorem one_syn (l:List Syn) :∀u∈l.flatMap Syn.vals,u.oneCell'=true:=one_vals (fun a u hu=>by simp[Syn.vals]at hu;rcases hu with rfl|rfl|rfl|rfl<;>rfl) l
theorem one_rul (l:List Rul) :∀u∈l.flatMap Rul.vals,u.oneCell'=true:=one_vals (fun a u hu=>by simp[Rul.vals]at hu;rcases hu with rfl|rfl|rfl|rfl|rfl|rfl|rfl|rfl|rfl|rfl<;>rfl) l
theorem one_ints (l:List Int) :∀u∈qD l,u.oneCell'=true:=fun u hu=>by obtain⟨a,_,rfl⟩:=List.mem_map.1 hu;rfl
theorem x6 :∀n:Nat,((List.replicate n ()).flatMap fun _=>[SV.v (.int .i64 0),SV.v (.int .i64 0)])=(List.replicate n jC).flatMap Ste.cells
 | 0=>rfl
 |n+1=>by
  rw[List.replicate_succ,List.replicate_succ,List.flatMap_cons,List.flatMap_cons,x6 n];rfl
theorem m0_succ (x:Lnt){i:Nat}(h:i<x.n.S.length):(x.m0.take (i+1)).flatMap Mrk.cells=(x.m0.take i).flatMap Mrk.cells++[ii x.n.S[i].w,ii 0,ii 0,ii 0]:=by
 have h2:i<x.m0.length:=by simpa[Lnt.m0]using h
 rw[←List.take_append_getElem h2,List.flatMap_append]
 have:x.m0[i]=mk0 x.n.S[i]:=by simp[Lnt.m0]
 rw[this]
 simp[mk0,Mrk.cells]
abbrev pfNew:PF:=[(62+1000,FCl 10 36),(63+1000,FCl 1 3),(64+1000,FCl 8 60),(65+1000,FCl 4 55),(2000,fun _ _=>none)]
theorem pfNew_ok:PF.oks Try.prog pfNew:=⟨mk_rules,mk_ints,wH,mk_syns,trivial,trivial⟩
def newM (x:Lnt):List (Nat×SObj):=[(0,.rwin 8 x.n.N.length (x.n.N.flatMap Prm.vals)),(1,.rwin 4 x.n.S.length (x.n.S.flatMap Syn.vals)),(2,.rwin 10 x.rs.length (x.rs.flatMap Rul.vals)),(3,.rwin 1 x.pl.length (qD x.pl))]
def newR (x:Lnt):List (Nat×SObj):=[(4,.cells [ii 0,.opq 5,ii x.n.inp,.opq 6,.opq 7,.mp 12,.mp 13,.mp 14,.mp 15,.mp 16,.mp 17,.mp 18,.mp 19,.mp 20,.mp 21,.mp 22,.mp 23,.mp 24,.mp 25,.mp 26,.mp 27,.opq 8,.opq 9,.opq 10,.mp 11] 96),(5,.row 8 x.n.N.length ((x.n.N.flatMap Prm.vals).map .v) 60),(6,.row 4 x.n.S.length ((x.n.S.flatMap Syn.vals).map .v) 55),(7,.row 2 x.n.N.length ((List.replicate x.n.N.length jC).flatMap Ste.cells) 139),(8,.row 10 x.rs.length ((x.rs.flatMap Rul.vals).map .v) 36),(9,.row 1 x.pl.length ((qD x.pl).map .v) 3),(10,.row 4 x.n.S.length (x.m0.flatMap Mrk.cells) 84),(11,.kmap true true x.tot),(12,.kmap false false []),(13,.kmap false false []),(14,.kmap false false []),(15,.kmap false false []),(16,.kmap false false []),(17,.kmap false false []),(18,.kmap false false []),(19,.kmap false false []),(20,.kmap false false []),(21,.kmap false false []),(22,.kmap false false []),(23,.kmap false false []),(24,.kmap false false []),(25,.kmap false false []),(26,.kmap false false []),(27,.kmap false false [])]
theorem new_ok (x:Lnt)(h:qZ x.n x.rs x.pl=0) :
  BSpec Try.prog 25 [.agg [.opq 0,ii x.n.inp,.opq 1],.opq 2,.opq 3] (newM x) 4 [] (.tup [.ptr 4 0,ii 0]) (newR x) 28:=by
 have hx:NetOK x:=uH h
 have hx1:=hx.N2
 have hx2:=hx.S1
 have hx3:=hx.rl
 have hx4:x.pl.length=x.n.S.length:=hx.lpl
 have hc :∀w L' rd,(∀p,rd=some p→p∈L')→Cx.ok ⟨Try.prog,tab,pfNew,25,Try.f25,[],w,L',rd⟩:=fun w L' rd h=>⟨qI,pfNew_ok,Try.func25,mixed,h⟩
 refine BSpec.start (tab:=tab) (pf:=pfNew) (cuts:=[]) Try.func25 rfl ⟨⟨(show 0<4 by decide),trivial,ltb rfl,trivial⟩,(show 2<4 by decide),ltb rfl,trivial⟩ rfl fun w L0 plp hL hLB hcov=>Run.s0 (hc w L0 none nofun) 100 _ ?_
 conv=>whnf
 refine Run.rB (g:=15) (vs:=[.agg [.opq 0,ii x.n.inp,.opq 1],.opq 2,.opq 3]) (caps:=[]) (ii 0) (fun ρ w1 hW=>by
  have:=uE ((SV.opq 0).conc ρ) ((SV.opq 1).conc ρ) x.n ((SV.opq 2).conc ρ) x.rs ((SV.opq 3).conc ρ) x.pl w1 ⟨hW.rowsAt rfl,hW.rowsAt rfl⟩ (hW.rowsAt rfl) (hW.rowsAt rfl)
  rw[h]at this
  exact this) (ent _ _ Try.func15 (by kernel_rfl) rfl) rfl rfl rfl rfl rfl rfl rfl trivial ?_
 refine Run.W2 hc ?_
 conv=>whnf
 rw[xT (F:=FCl 10 36) rfl rfl rfl rfl rfl (uC rfl (by omega) (one_rul _))]
 conv=>whnf
 rw[xT (F:=FCl 1 3) rfl rfl rfl rfl rfl (uC rfl (by omega) (one_ints _))]
 conv=>whnf
 refine Run.draw (hc w L0 none nofun) 14 ?_
 rw[show qG 0 14=qG 0 4++(qG 4 5++qG 9 5)from rfl]
 simp only[qV]
 conv=>whnf
 rw[xT (F:=FCl 8 60) rfl rfl rfl rfl rfl (uC rfl (by omega) (one_prm _))]
 conv=>whnf
 rw[xT (F:=FCl 4 55) rfl rfl rfl rfl rfl (uC rfl (by omega) (one_syn _))]
 conv=>whnf
 refine⟨by kernel_rfl,?_⟩
 refine Run.W2 hc ?_
 conv=>whnf
 rw[yA (m:=x.n.N.length) rfl rfl rfl rfl rfl rfl (by omega) (by omega)]
 conv=>whnf
 rw[x6]
 refine Run.nils (T':=[(9,.ptr 8 0),(3,.ptr 5 0),(47,.opq 1),(48,ii (x.n.S.length:Int)),(49,ii ((0:Nat):Int))]) (M':=[(24,.row 4 0 [] 84),(8,.cells [ii 0,.opq 12,ii x.n.inp,.opq 17,.opq 23,.v (.map none),.v (.map none),.v (.map none),.v (.map none),.v (.map none),.v (.map none),.v (.map none),.v (.map none),.v (.map none),.v (.map none),.v (.map none),.v (.map none),.v (.map none),.v (.map none),.v (.map none),.v (.map none),.opq 6,.opq 7,.opq 24,.v (.map none)] 96),(4,.pin plp),(5,.cells [.opq 0,ii x.n.inp,.opq 1] 25),(12,.row 8 x.n.N.length ((x.n.N.flatMap Prm.vals).map .v) 60),(17,.row 4 x.n.S.length ((x.n.S.flatMap Syn.vals).map .v) 55),(23,.row 2 x.n.N.length ((List.replicate x.n.N.length jC).flatMap Ste.cells) 139),(6,.row 10 x.rs.length ((x.rs.flatMap Rul.vals).map .v) 36),(7,.row 1 x.pl.length ((qD x.pl).map .v) 3),(0,.rwin 8 x.n.N.length (x.n.N.flatMap Prm.vals)),(1,.rwin 4 x.n.S.length (x.n.S.flatMap Syn.vals)),(2,.rwin 10 x.rs.length (x.rs.flatMap Rul.vals)),(3,.rwin 1 x.pl.length (qD x.pl))]) 1 (fun _=>.row 4 0 [] 84) (fun _ _=>.inl ⟨_,_,rfl⟩) (by repeat first|exact trivial|refine⟨⟨_,rfl,.inl rfl⟩,?_⟩) (by repeat first|exact trivial|refine⟨.inl ⟨0,by decide,rfl⟩,?_⟩|refine⟨.inr ⟨_,rfl,.inr ⟨_,_,_,rfl,rfl,⟨.inl rfl,.inl rfl,.inl rfl,.inl rfl,.inl rfl,.inl rfl,.inl rfl,.inl rfl,.inl rfl,.inl rfl,.inl rfl,.inl rfl,.inl rfl,.inl rfl,.inl rfl,.inl rfl,.inl rfl,.inl rfl,.inl rfl,.inl rfl,.inl rfl,.inl rfl,.inl rfl,.inr (.inl ⟨rfl,0,by decide,rfl⟩),.inl rfl,trivial⟩⟩⟩,?_⟩|refine⟨.inr ⟨_,rfl,.inl rfl⟩,?_⟩) ?_
 refine Run.rC (T':=[(9,.ptr 30 0),(3,.ptr 5 0),(47,.opq 1),(48,ii (x.n.S.length:Int)),(49,ii ((0:Nat):Int))]) (M':=[(36,.row 4 0 ((x.m0.take 0).flatMap Mrk.cells) 84),(30,.cells [ii 0,.opq 31,ii x.n.inp,.opq 32,.opq 33,.v (.map none),.v (.map none),.v (.map none),.v (.map none),.v (.map none),.v (.map none),.v (.map none),.v (.map none),.v (.map none),.v (.map none),.v (.map none),.v (.map none),.v (.map none),.v (.map none),.v (.map none),.v (.map none),.opq 34,.opq 35,.opq 36,.v (.map none)] 96),(4,.pin plp),(5,.cells [.opq 0,ii x.n.inp,.opq 1] 25),(31,.row 8 x.n.N.length ((x.n.N.flatMap Prm.vals).map .v) 60),(32,.row 4 x.n.S.length ((x.n.S.flatMap Syn.vals).map .v) 55),(33,.row 2 x.n.N.length ((List.replicate x.n.N.length jC).flatMap Ste.cells) 139),(34,.row 10 x.rs.length ((x.rs.flatMap Rul.vals).map .v) 36),(35,.row 1 x.pl.length ((qD x.pl).map .v) 3),(0,.rwin 8 x.n.N.length (x.n.N.flatMap Prm.vals)),(1,.rwin 4 x.n.S.length (x.n.S.flatMap Syn.vals)),(2,.rwin 10 x.rs.length (x.rs.flatMap Rul.vals)),(3,.rwin 1 x.pl.length (qD x.pl))]) (rq [(30,8),(8,30),(31,12),(12,31),(32,17),(17,32),(33,23),(23,33),(34,6),(6,34),(35,7),(7,35),(36,24),(24,36)]) 54 ?_ ?_ ?_ ?_ ?_
 ·intro i hi j hj hne he
  have inv :∀i,i<54→rq [(30,8),(8,30),(31,12),(12,31),(32,17),(17,32),(33,23),(23,33),(34,6),(6,34),(35,7),(7,35),(36,24),(24,36)] (rq [(30,8),(8,30),(31,12),(12,31),(32,17),(17,32),(33,23),(23,33),(34,6),(6,34),(35,7),(7,35),(36,24),(24,36)] i)=i:=by decide
  exact hne (by rw[←inv i hi,he,inv j hj])
 ·exact⟨⟨rfl,ltb rfl⟩,⟨rfl,ltb rfl⟩,⟨rfl,ltb rfl⟩,⟨rfl,trivial⟩,⟨rfl,trivial⟩,trivial⟩
 ·exact⟨⟨congrArg some (ofx (o:=.row 4 0 ((x.m0.take 0).flatMap Mrk.cells) 84) (qN _ _)).symm,by omega,Os.h _⟩,⟨rfl,by omega,qE _ rfl⟩,⟨congrArg some (jK hcov (fun i hi=>zG (zA (B:=4) rfl hi))).symm,by omega,pnx hcov rfl⟩,⟨rfl,by omega,qE _ rfl⟩,⟨congrArg some (ofx (o:=.row 8 x.n.N.length ((x.n.N.flatMap Prm.vals).map .v) 60) (qL _ _)).symm,by omega,Os.h _⟩,⟨congrArg some (ofx (o:=.row 4 x.n.S.length ((x.n.S.flatMap Syn.vals).map .v) 55) (qL _ _)).symm,by omega,Os.h _⟩,⟨congrArg some (ofx (o:=.row 2 x.n.N.length ((List.replicate x.n.N.length jC).flatMap Ste.cells) 139) (qS _ _)).symm,by omega,Os.h _⟩,⟨congrArg some (ofx (o:=.row 10 x.rs.length ((x.rs.flatMap Rul.vals).map .v) 36) (qL _ _)).symm,by omega,Os.h _⟩,⟨congrArg some (ofx (o:=.row 1 x.pl.length ((qD x.pl).map .v) 3) (qL _ _)).symm,by omega,Os.h _⟩,⟨rfl,by omega,Os.h _⟩,⟨rfl,by omega,Os.h _⟩,⟨rfl,by omega,Os.h _⟩,⟨rfl,by omega,Os.h _⟩,trivial⟩
 ·intro p hp
  have:=hLB p hp;exact⟨zG (zA (B:=4) rfl this),by omega⟩
 refine Run.rD (T:=fun i=>[(9,.ptr 30 0),(3,.ptr 5 0),(47,.opq 1),(48,ii (x.n.S.length:Int)),(49,ii ((i:Nat):Int))]) (M:=fun i=>[(36,.row 4 i ((x.m0.take i).flatMap Mrk.cells) 84),(30,.cells [ii 0,.opq 31,ii x.n.inp,.opq 32,.opq 33,.v (.map none),.v (.map none),.v (.map none),.v (.map none),.v (.map none),.v (.map none),.v (.map none),.v (.map none),.v (.map none),.v (.map none),.v (.map none),.v (.map none),.v (.map none),.v (.map none),.v (.map none),.v (.map none),.opq 34,.opq 35,.opq 36,.v (.map none)] 96),(4,.pin plp),(5,.cells [.opq 0,ii x.n.inp,.opq 1] 25),(31,.row 8 x.n.N.length ((x.n.N.flatMap Prm.vals).map .v) 60),(32,.row 4 x.n.S.length ((x.n.S.flatMap Syn.vals).map .v) 55),(33,.row 2 x.n.N.length ((List.replicate x.n.N.length jC).flatMap Ste.cells) 139),(34,.row 10 x.rs.length ((x.rs.flatMap Rul.vals).map .v) 36),(35,.row 1 x.pl.length ((qD x.pl).map .v) 3),(0,.rwin 8 x.n.N.length (x.n.N.flatMap Prm.vals)),(1,.rwin 4 x.n.S.length (x.n.S.flatMap Syn.vals)),(2,.rwin 10 x.rs.length (x.rs.flatMap Rul.vals)),(3,.rwin 1 x.pl.length (qD x.pl))]) (fun _=>True) (x.n.S.length) trivial ?_ ?_
 ·intro i hi hJ ih
  refine Run.W2 hc ?_
  conv=>whnf
  rw[decide_eq_true (show((i:Nat):Int)<(x.n.S.length:Int)by omega)]
  conv=>whnf
  refine⟨by omega,?_⟩
  conv=>whnf
  rw[jI (f:=Syn.vals) (l:=x.n.S) i rfl rfl rfl rfl rfl Syn.vlen (by rw[qQ]) hi]
  conv=>whnf
  refine Run.draw (hc w L0 none nofun) 13 ?_
  rw[show qG 0 13=qG 0 10++qG 10 3 from rfl]
  simp only[qV]
  conv=>whnf
  refine⟨by omega,?_⟩
  conv=>whnf
  refine⟨by kernel_rfl,?_⟩
  refine Run.W2 hc ?_
  conv=>whnf
  refine Run.rC (T':=[(9,.ptr 30 0),(3,.ptr 5 0),(47,.opq 1),(48,ii (x.n.S.length:Int)),(49,ii (((i+1):Nat):Int))]) (M':=[(36,.row 4 (i+1) ((x.m0.take (i+1)).flatMap Mrk.cells) 84),(30,.cells [ii 0,.opq 31,ii x.n.inp,.opq 32,.opq 33,.v (.map none),.v (.map none),.v (.map none),.v (.map none),.v (.map none),.v (.map none),.v (.map none),.v (.map none),.v (.map none),.v (.map none),.v (.map none),.v (.map none),.v (.map none),.v (.map none),.v (.map none),.v (.map none),.opq 34,.opq 35,.opq 36,.v (.map none)] 96),(4,.pin plp),(5,.cells [.opq 0,ii x.n.inp,.opq 1] 25),(31,.row 8 x.n.N.length ((x.n.N.flatMap Prm.vals).map .v) 60),(32,.row 4 x.n.S.length ((x.n.S.flatMap Syn.vals).map .v) 55),(33,.row 2 x.n.N.length ((List.replicate x.n.N.length jC).flatMap Ste.cells) 139),(34,.row 10 x.rs.length ((x.rs.flatMap Rul.vals).map .v) 36),(35,.row 1 x.pl.length ((qD x.pl).map .v) 3),(0,.rwin 8 x.n.N.length (x.n.N.flatMap Prm.vals)),(1,.rwin 4 x.n.S.length (x.n.S.flatMap Syn.vals)),(2,.rwin 10 x.rs.length (x.rs.flatMap Rul.vals)),(3,.rwin 1 x.pl.length (qD x.pl))]) (rq [(36,64),(64,36)]) 54 ?_ ?_ ?_ ?_ (ih trivial)
  ·intro i hi j hj hne he
   have inv :∀i,i<54→rq [(36,64),(64,36)] (rq [(36,64),(64,36)] i)=i:=by decide
   exact hne (by rw[←inv i hi,he,inv j hj])
  ·exact⟨⟨rfl,ltb rfl⟩,⟨rfl,ltb rfl⟩,⟨rfl,ltb rfl⟩,⟨rfl,trivial⟩,⟨wsx (by omega),trivial⟩,trivial⟩
  ·exact⟨⟨by rw[ofx (o:=.row 4 (i+1) ((x.m0.take (i+1)).flatMap Mrk.cells) 84) (qN _ _),m0_succ x hi];rfl,by omega,Os.h _⟩,⟨rfl,by omega,qE _ rfl⟩,⟨congrArg some (jK hcov (fun i hi=>zG (zA (B:=4) rfl hi))).symm,by omega,pnx hcov rfl⟩,⟨rfl,by omega,qE _ rfl⟩,⟨congrArg some (ofx (o:=.row 8 x.n.N.length ((x.n.N.flatMap Prm.vals).map .v) 60) (qL _ _)).symm,by omega,Os.h _⟩,⟨congrArg some (ofx (o:=.row 4 x.n.S.length ((x.n.S.flatMap Syn.vals).map .v) 55) (qL _ _)).symm,by omega,Os.h _⟩,⟨congrArg some (ofx (o:=.row 2 x.n.N.length ((List.replicate x.n.N.length jC).flatMap Ste.cells) 139) (qS _ _)).symm,by omega,Os.h _⟩,⟨congrArg some (ofx (o:=.row 10 x.rs.length ((x.rs.flatMap Rul.vals).map .v) 36) (qL _ _)).symm,by omega,Os.h _⟩,⟨congrArg some (ofx (o:=.row 1 x.pl.length ((qD x.pl).map .v) 3) (qL _ _)).symm,by omega,Os.h _⟩,⟨rfl,by omega,Os.h _⟩,⟨rfl,by omega,Os.h _⟩,⟨rfl,by omega,Os.h _⟩,⟨rfl,by omega,Os.h _⟩,trivial⟩
  ·intro p hp
   have:=hLB p hp;exact⟨zG (zA (B:=4) rfl this),by omega⟩
 ·intro hJ
  refine Run.W2 hc ?_
  conv=>whnf
  rw[decide_eq_false (show ¬((x.n.S.length:Nat):Int)<(x.n.S.length:Int)by omega)]
  conv=>whnf
  have hm0l:x.m0.length=x.n.S.length:=by simp[Lnt.m0]
  rw[show x.m0.take x.n.S.length=x.m0 by rw[←hm0l,List.take_length]]
  have hsum:=sums_spec (ii 0) x.n.inp (fun _=>.v (.map none)) (.v (.map none)) x.n.S x.rs x.pl x.m0 (by simp[qJ,SV.scs,SV.sc]) hx4 hm0l hx.p1 hx2
  unfold sumM at hsum
  rw[hm0l]at hsum
  refine Run.rI (vs:=[.ptr 0 0]) (caps:=[]) (caps2:=[]) hsum (ent _ _ Try.func66 (by kernel_rfl) rfl) rfl rfl rfl rfl rfl rfl [.ptr 30 0] rfl (fun i=>30+i) rfl (fun i hi=>by omega) (fun i hi j hj hne=>by omega) (by decide) (by repeat first|exact trivial|refine⟨⟨by omega,trivial,⟨_,rfl,Conv.row (by decide) rfl⟩,.inl rfl,fun _=>by simp⟩,?_⟩|refine⟨⟨by omega,trivial,⟨_,rfl,Conv.row (by decide) (uF _)⟩,.inl rfl,fun _=>by simp⟩,?_⟩|refine⟨⟨by omega,by simp[qJ,SObj.sc,SV.scs,SV.sc],⟨_,rfl,Conv.refl _⟩,.inr (by simp),fun h=>by cases h⟩,?_⟩) (fun i hi=>by simp at hi;subst hi;exact⟨by omega,_,rfl⟩) (.mp 54) [(54,.kmap true true x.tot),(36,.row 4 x.n.S.length (x.m0.flatMap Mrk.cells) 84),(30,.cells [ii 0,.opq 31,ii x.n.inp,.opq 32,.opq 33,.v (.map none),.v (.map none),.v (.map none),.v (.map none),.v (.map none),.v (.map none),.v (.map none),.v (.map none),.v (.map none),.v (.map none),.v (.map none),.v (.map none),.v (.map none),.v (.map none),.v (.map none),.v (.map none),.opq 34,.opq 35,.opq 36,.v (.map none)] 96),(4,.pin plp),(5,.cells [.opq 0,ii x.n.inp,.opq 1] 25),(31,.row 8 x.n.N.length ((x.n.N.flatMap Prm.vals).map .v) 60),(32,.row 4 x.n.S.length ((x.n.S.flatMap Syn.vals).map .v) 55),(33,.row 2 x.n.N.length ((List.replicate x.n.N.length jC).flatMap Ste.cells) 139),(34,.row 10 x.rs.length ((x.rs.flatMap Rul.vals).map .v) 36),(35,.row 1 x.pl.length ((qD x.pl).map .v) 3),(0,.rwin 8 x.n.N.length (x.n.N.flatMap Prm.vals)),(1,.rwin 4 x.n.S.length (x.n.S.flatMap Syn.vals)),(2,.rwin 10 x.rs.length (x.rs.flatMap Rul.vals)),(3,.rwin 1 x.pl.length (qD x.pl))] 55 rfl rfl
   ⟨.inr ⟨24,_,rfl,rfl,rfl,rfl⟩,.inl ⟨rfl,fun i hi=>by simp at hi;subst hi;exact(show(30:Nat)≠36 by decide)⟩,.inr ⟨0,_,rfl,rfl,rfl,rfl⟩,.inl ⟨rfl,fun i hi=>by simp at hi;subst hi;exact(show(30:Nat)≠4 by decide)⟩,.inl ⟨rfl,fun i hi=>by simp at hi;subst hi;exact(show(30:Nat)≠5 by decide)⟩,.inl ⟨rfl,fun i hi=>by simp at hi;subst hi;exact(show(30:Nat)≠31 by decide)⟩,.inl ⟨rfl,fun i hi=>by simp at hi;subst hi;exact(show(30:Nat)≠32 by decide)⟩,.inl ⟨rfl,fun i hi=>by simp at hi;subst hi;exact(show(30:Nat)≠33 by decide)⟩,.inl ⟨rfl,fun i hi=>by simp at hi;subst hi;exact(show(30:Nat)≠34 by decide)⟩,.inl ⟨rfl,fun i hi=>by simp at hi;subst hi;exact(show(30:Nat)≠35 by decide)⟩,.inl ⟨rfl,fun i hi=>by simp at hi;subst hi;exact(show(30:Nat)≠0 by decide)⟩,.inl ⟨rfl,fun i hi=>by simp at hi;subst hi;exact(show(30:Nat)≠1 by decide)⟩,.inl ⟨rfl,fun i hi=>by simp at hi;subst hi;exact(show(30:Nat)≠2 by decide)⟩,.inl ⟨rfl,fun i hi=>by simp at hi;subst hi;exact(show(30:Nat)≠3 by decide)⟩,trivial⟩ ?_
  refine Run.nils (T':=[(9,.ptr 30 0),(66,.ptr 30 0),(68,.mp 54)]) (M':=((55,.kmap false false [])::(56,.kmap false false [])::(57,.kmap false false [])::(58,.kmap false false [])::(59,.kmap false false [])::(60,.kmap false false [])::(61,.kmap false false [])::(62,.kmap false false [])::(63,.kmap false false [])::(64,.kmap false false [])::(65,.kmap false false [])::(66,.kmap false false [])::(67,.kmap false false [])::(68,.kmap false false [])::(69,.kmap false false [])::(70,.kmap false false [])::(30,.cells [ii 0,.opq 31,ii x.n.inp,.opq 32,.opq 33,.mp 55,.mp 56,.mp 57,.mp 58,.mp 59,.mp 60,.mp 61,.mp 62,.mp 63,.mp 64,.mp 65,.mp 66,.mp 67,.mp 68,.mp 69,.mp 70,.opq 34,.opq 35,.opq 36,.v (.map none)] 96)::(54,.kmap true true x.tot)::(36,.row 4 x.n.S.length (x.m0.flatMap Mrk.cells) 84)::(4,.pin plp)::(5,.cells [.opq 0,ii x.n.inp,.opq 1] 25)::(31,.row 8 x.n.N.length ((x.n.N.flatMap Prm.vals).map .v) 60)::(32,.row 4 x.n.S.length ((x.n.S.flatMap Syn.vals).map .v) 55)::(33,.row 2 x.n.N.length ((List.replicate x.n.N.length jC).flatMap Ste.cells) 139)::(34,.row 10 x.rs.length ((x.rs.flatMap Rul.vals).map .v) 36)::(35,.row 1 x.pl.length ((qD x.pl).map .v) 3)::(0,.rwin 8 x.n.N.length (x.n.N.flatMap Prm.vals))::(1,.rwin 4 x.n.S.length (x.n.S.flatMap Syn.vals))::(2,.rwin 10 x.rs.length (x.rs.flatMap Rul.vals))::(3,.rwin 1 x.pl.length (qD x.pl))::[])) 16 (fun _=>.kmap false false []) (fun _ _=>.inr ⟨_,rfl⟩) ⟨⟨_,rfl,.inl rfl⟩,⟨_,rfl,.inl rfl⟩,⟨_,rfl,.inl rfl⟩,trivial⟩ ⟨.inl ⟨0,by decide,rfl⟩,.inl ⟨1,by decide,rfl⟩,.inl ⟨2,by decide,rfl⟩,.inl ⟨3,by decide,rfl⟩,.inl ⟨4,by decide,rfl⟩,.inl ⟨5,by decide,rfl⟩,.inl ⟨6,by decide,rfl⟩,.inl ⟨7,by decide,rfl⟩,.inl ⟨8,by decide,rfl⟩,.inl ⟨9,by decide,rfl⟩,.inl ⟨10,by decide,rfl⟩,.inl ⟨11,by decide,rfl⟩,.inl ⟨12,by decide,rfl⟩,.inl ⟨13,by decide,rfl⟩,.inl ⟨14,by decide,rfl⟩,.inl ⟨15,by decide,rfl⟩,.inr ⟨_,rfl,.inr ⟨_,_,_,rfl,rfl,⟨.inl rfl,.inl rfl,.inl rfl,.inl rfl,.inl rfl,.inr (.inr ⟨rfl,0,by decide,rfl,rfl⟩),.inr (.inr ⟨rfl,1,by decide,rfl,rfl⟩),.inr (.inr ⟨rfl,2,by decide,rfl,rfl⟩),.inr (.inr ⟨rfl,3,by decide,rfl,rfl⟩),.inr (.inr ⟨rfl,4,by decide,rfl,rfl⟩),.inr (.inr ⟨rfl,5,by decide,rfl,rfl⟩),.inr (.inr ⟨rfl,6,by decide,rfl,rfl⟩),.inr (.inr ⟨rfl,7,by decide,rfl,rfl⟩),.inr (.inr ⟨rfl,8,by decide,rfl,rfl⟩),.inr (.inr ⟨rfl,9,by decide,rfl,rfl⟩),.inr (.inr ⟨rfl,10,by decide,rfl,rfl⟩),.inr (.inr ⟨rfl,11,by decide,rfl,rfl⟩),.inr (.inr ⟨rfl,12,by decide,rfl,rfl⟩),.inr (.inr ⟨rfl,13,by decide,rfl,rfl⟩),.inr (.inr ⟨rfl,14,by decide,rfl,rfl⟩),.inr (.inr ⟨rfl,15,by decide,rfl,rfl⟩),.inl rfl,.inl rfl,.inl rfl,.inl rfl,trivial⟩⟩⟩,.inr ⟨_,rfl,.inl rfl⟩,.inr ⟨_,rfl,.inl rfl⟩,.inr ⟨_,rfl,.inl rfl⟩,.inr ⟨_,rfl,.inl rfl⟩,.inr ⟨_,rfl,.inl rfl⟩,.inr ⟨_,rfl,.inl rfl⟩,.inr ⟨_,rfl,.inl rfl⟩,.inr ⟨_,rfl,.inl rfl⟩,.inr ⟨_,rfl,.inl rfl⟩,.inr ⟨_,rfl,.inl rfl⟩,.inr ⟨_,rfl,.inl rfl⟩,.inr ⟨_,rfl,.inl rfl⟩,.inr ⟨_,rfl,.inl rfl⟩,trivial⟩ ?_
  refine Run.W2 hc ?_
  conv=>whnf
  refine SpecR.rT (rq [(4,30),(5,31),(6,32),(7,33),(8,34),(9,35),(10,36),(11,54),(12,55),(13,56),(14,57),(15,58),(16,59),(17,60),(18,61),(19,62),(20,63),(21,64),(22,65),(23,66),(24,67),(25,68),(26,69),(27,70)]) (fun i hi=>zG (zA (B:=4) rfl hi)) ?_ (Widens.refl _ _) hLB (by decide) hcov rfl rfl ⟨(show 4<28 by decide),trivial,trivial⟩ ?_
  ·intro i hi j hj hne
   have inj :∀i,i<28 → ∀j,j<28→i≠j→rq [(4,30),(5,31),(6,32),(7,33),(8,34),(9,35),(10,36),(11,54),(12,55),(13,56),(14,57),(15,58),(16,59),(17,60),(18,61),(19,62),(20,63),(21,64),(22,65),(23,66),(24,67),(25,68),(26,69),(27,70)] i≠rq [(4,30),(5,31),(6,32),(7,33),(8,34),(9,35),(10,36),(11,54),(12,55),(13,56),(14,57),(15,58),(16,59),(17,60),(18,61),(19,62),(20,63),(21,64),(22,65),(23,66),(24,67),(25,68),(26,69),(27,70)] j:=by decide
   exact inj i hi j hj hne
  ·exact(by repeat first|exact trivial|refine⟨⟨rfl,by omega,qE _ rfl⟩,?_⟩|refine⟨⟨rfl,by omega,Os.h _⟩,?_⟩|refine⟨⟨congrArg some (ofx (o:=.row 8 x.n.N.length ((x.n.N.flatMap Prm.vals).map .v) 60) (qL _ _)).symm,by omega,Os.h _⟩,?_⟩|refine⟨⟨congrArg some (ofx (o:=.row 4 x.n.S.length ((x.n.S.flatMap Syn.vals).map .v) 55) (qL _ _)).symm,by omega,Os.h _⟩,?_⟩|refine⟨⟨congrArg some (ofx (o:=.row 2 x.n.N.length ((List.replicate x.n.N.length jC).flatMap Ste.cells) 139) (qS _ _)).symm,by omega,Os.h _⟩,?_⟩|refine⟨⟨congrArg some (ofx (o:=.row 10 x.rs.length ((x.rs.flatMap Rul.vals).map .v) 36) (qL _ _)).symm,by omega,Os.h _⟩,?_⟩|refine⟨⟨congrArg some (ofx (o:=.row 1 x.pl.length ((qD x.pl).map .v) 3) (qL _ _)).symm,by omega,Os.h _⟩,?_⟩|refine⟨⟨congrArg some (ofx (o:=.row 4 x.n.S.length (x.m0.flatMap Mrk.cells) 84) (qN _ _)).symm,by omega,Os.h _⟩,?_⟩)
theorem new_bad (vN vS:Value)(n:Net)(vR:Value)(rs:List Rul)(vP:Value)(pl:List Int)(w:World)(h:qZ n rs pl≠0)(hn:xU w vN vS n)(hr:RowsAt w vR 10 rs.length (rs.flatMap Rul.vals))(hpl:RowsAt w vP 1 pl.length (qD pl)) :
  Calls Try.prog 25 #[netV vN vS n,vR,vP] w fun e w'=>e = .returned (.tuple #[.pointer none,.int .i64 (qZ n rs pl)])∧Ext w w':=by
 have hc :∀L,Cx.ok ⟨Try.prog,tab,[],25,Try.f25,[],w,L,none⟩:=fun L=>⟨qI,trivial,Try.func25,mixed,fun _ h=>by cases h⟩
 obtain⟨h1,h2⟩:=hn
 obtain⟨N,inp,S⟩:=n
 simp only at h1 h2
 have hrows:AllP (fun x:Value×Nat×Nat×List Value=>RowsAt w x.1 x.2.1 x.2.2.1 x.2.2.2) [(vN,8,N.length,N.flatMap Prm.vals),(vS,4,S.length,S.flatMap Syn.vals),(vR,10,rs.length,rs.flatMap Rul.vals),(vP,1,pl.length,qD pl)]:=⟨h1,h2,hr,hpl,trivial⟩
 refine Run.rH Try.func25 rfl _ hrows [.agg [.opq 0,ii inp,.opq 1],.opq 2,.opq 3] [netV vN vS ⟨N,inp,S⟩,vR,vP] [(0,.rwin 8 N.length (N.flatMap Prm.vals)),(1,.rwin 4 S.length (S.flatMap Syn.vals)),(2,.rwin 10 rs.length (rs.flatMap Rul.vals)),(3,.rwin 1 pl.length (qD pl))] 4 rfl rfl
  (by show [Value.agg [(SV.opq 0).conc _,.int .i64 inp,(SV.opq 1).conc _].toArray,(SV.opq 2).conc _,(SV.opq 3).conc _]=_;rw[qM hrows (k:=0) rfl,qM hrows (k:=1) rfl,qM hrows (k:=2) rfl,qM hrows (k:=3) rfl];rfl) (by simp[SV.scs,SV.sc]) rfl (Run.s0 (hc _) 1000 _ ?_)
 conv=>whnf
 obtain⟨ck,hck⟩ :∃ck,qZ ⟨N,inp,S⟩ rs pl=ck:=⟨_,rfl⟩
 refine Run.rB (g:=15) (vs:=[.agg [.opq 0,ii inp,.opq 1],.opq 2,.opq 3]) (caps:=[]) (ii ck) (fun ρ w1 hW=>by
  have:=uE ((SV.opq 0).conc ρ) ((SV.opq 1).conc ρ) ⟨N,inp,S⟩ ((SV.opq 2).conc ρ) rs ((SV.opq 3).conc ρ) pl w1 ⟨hW.rowsAt rfl,hW.rowsAt rfl⟩ (hW.rowsAt rfl) (hW.rowsAt rfl)
  rw[hck]at this
  exact this) (ent _ _ Try.func15 (by kernel_rfl) rfl) rfl rfl rfl rfl rfl rfl rfl trivial ?_
 refine Run.W1 (hc _) ?_
 conv=>whnf
 rw[show(ck != 0)=true by rw[←hck];simpa using h]
 conv=>whnf
 exact⟨fun ρ w' hW _=>⟨by rw[hck];rfl,hW.toExt⟩⟩
theorem syns_v (l:List Syn):l.flatMap Syn.cells=(l.flatMap Syn.vals).map .v:=by
 induction l with
 |nil=>rfl
 |cons a l ih=>rw[List.flatMap_cons,List.flatMap_cons,List.map_append,ih];rfl
theorem yH (S:Nat→Prop)(l:List Syn):SV.scs S (l.flatMap Syn.cells):=by rw[syns_v];exact qL _ _
def nowSt (m:List Mrk)(l:List Syn)(i:Nat):List Syn:=l.set i { l.getD i zC with w:=(m.getD i qW).w }
def nowY (S:List Syn)(m:List Mrk)(j:Nat):List Syn:=(List.range j).foldl (nowSt m) S
def nowL (S:List Syn)(m:List Mrk):List Syn:=nowY S m m.length
theorem tW (S:List Syn)(m:List Mrk)(j:Nat):nowY S m (j+1)=nowSt m (nowY S m j) j:=gU ..
theorem wC (S:List Syn)(m:List Mrk) :∀j,(nowY S m j).length=S.length
 | 0=>rfl
 |j+1=>by
  rw[tW]
  have:=wC S m j
  simp[nowSt,this]
theorem nowY_get (S:List Syn)(m:List Mrk) :∀j i,(nowY S m j).getD i zC=if i<j∧i<S.length then { S.getD i zC with w:=(m.getD i qW).w }else S.getD i zC
 | 0,i=>by simp[nowY]
 |j+1,i=>by
  rw[tW]
  unfold nowSt
  have hl:=wC S m j
  have ih:=nowY_get S m j
  by_cases hj:j<S.length
  ·have e:((nowY S m j).set j { (nowY S m j).getD j zC with w:=(m.getD j qW).w }).getD i zC=if j=i then { (nowY S m j).getD j zC with w:=(m.getD j qW).w }else(nowY S m j).getD i zC:=by
    simp only[List.getD_eq_getElem?_getD,List.getElem?_set]
    by_cases e:j=i
    ·subst e;simp[hl,hj]
    ·simp[e]
   rw[e]
   by_cases e2:j=i
   ·subst e2
    rw[if_pos rfl,ih j,if_neg (by omega),if_pos ⟨by omega,hj⟩]
   ·rw[if_neg e2,ih i]
    by_cases h2:i<j∧i<S.length
    ·rw[if_pos h2,if_pos ⟨by omega,h2.2⟩]
    ·rw[if_neg h2,if_neg (by omega)]
  ·rw[List.set_eq_of_length_le (by omega),ih i]
   by_cases h2:i<j∧i<S.length
   ·rw[if_pos h2,if_pos ⟨by omega,h2.2⟩]
   ·rw[if_neg h2,if_neg (by omega)]
abbrev pfNow:PF:=[(64+1000,FCl 8 60),(65+1000,FCl 4 55)]
theorem pfNow_ok:PF.oks Try.prog pfNow:=⟨wH,mk_syns,trivial⟩
def nowM (C:List SV)(N:List Prm)(S:List Syn)(m:List Mrk):List (Nat×SObj):=[(0,.cells C 96),(1,.rwin 8 N.length (N.flatMap Prm.vals)),(2,.rwin 4 S.length (S.flatMap Syn.vals)),(6,.rwin 4 m.length (m.flatMap Mrk.vals))]
theorem now_spec (tk:SV)(inp:Int)(rg:Nat→SV)(tt:SV)(N:List Prm)(S:List Syn)(m:List Mrk)(hsc:SV.scs (· < 24) (qJ tk inp rg tt))(hm:m.length=S.length)(hS:S.length≤8192)(hN:N.length≤1024) :
  BSpec Try.prog 53 [.ptr 0 0] (nowM (qJ tk inp rg tt) N S m) 24 [0] (.agg [.opq 24,ii inp,.opq 25])
   [(24,.row 8 N.length ((N.flatMap Prm.vals).map .v) 60),(25,.row 4 S.length ((nowL S m).flatMap Syn.cells) 55),(0,.cells (qJ tk inp rg tt) 96)] 26:=by
 have hc :∀w L' rd,(∀p,rd=some p→p∈L')→Cx.ok ⟨Try.prog,tab,pfNow,53,Try.f53,[],w,L',rd⟩:=fun w L' rd h=>⟨qI,pfNow_ok,Try.func53,mixed,h⟩
 refine BSpec.start (tab:=tab) (pf:=pfNow) (cuts:=[]) Try.func53 rfl ⟨ltb rfl,trivial⟩ rfl fun w L0 plp hL hLB hcov=>Run.s0 (hc w L0 none nofun) 100 _ ?_
 conv=>whnf
 refine Run.draw (hc w L0 none nofun) 23 ?_
 rw[show qG 0 23=qG 0 7++(qG 7 13++qG 20 3)from rfl]
 simp only[qV]
 conv=>whnf
 rw[xT (F:=FCl 8 60) rfl rfl rfl rfl rfl (uC rfl (by omega) (one_prm _))]
 conv=>whnf
 rw[xT (F:=FCl 4 55) rfl rfl rfl rfl rfl (uC rfl (by omega) (one_syn _))]
 conv=>whnf
 refine⟨by kernel_rfl,?_⟩
 refine Run.W2 hc ?_
 conv=>whnf
 refine Run.s6 (T':=[(2,.ptr 25 0),(3,.ptr 47 0),(30,.opq 6),(31,ii (m.length:Int)),(32,ii (((0:Nat):Nat):Int))]) (M':=[(45,.row 4 S.length ((nowY S m (0:Nat)).flatMap Syn.cells) 55),(47,.cells [.opq 32,ii inp,.opq 45] 25),(32,.row 8 N.length ((N.flatMap Prm.vals).map .v) 60),(25,.cells [nq,ii 0,nq] 25),(24,.pin plp),(0,.cells (qJ tk inp rg tt) 96),(1,.rwin 8 N.length (N.flatMap Prm.vals)),(2,.rwin 4 S.length (S.flatMap Syn.vals)),(6,.rwin 4 m.length (m.flatMap Mrk.vals))]) 49 ?_ ?_ (lbx hLB rfl) ?_
 ·exact⟨⟨rfl,ltb rfl⟩,⟨rfl,ltb rfl⟩,⟨rfl,ltb rfl⟩,⟨rfl,trivial⟩,⟨rfl,trivial⟩,trivial⟩
 ·exact⟨⟨by rw[show nowY S m 0=S from rfl,syns_v];rfl,by omega,yH _ _⟩,⟨rfl,ltb rfl,qE _ rfl⟩,⟨rfl,by omega,Os.h _⟩,⟨rfl,ltb rfl,qE _ rfl⟩,⟨rfl,by omega,pnx hcov rfl⟩,⟨rfl,by omega,SV.s7 (by decide) hsc⟩,⟨rfl,ltb rfl,trivial⟩,⟨rfl,ltb rfl,trivial⟩,⟨rfl,ltb rfl,trivial⟩,trivial⟩
 refine Run.rD (T:=fun i=>[(2,.ptr 25 0),(3,.ptr 47 0),(30,.opq 6),(31,ii (m.length:Int)),(32,ii ((i:Nat):Int))]) (M:=fun i=>[(45,.row 4 S.length ((nowY S m i).flatMap Syn.cells) 55),(47,.cells [.opq 32,ii inp,.opq 45] 25),(32,.row 8 N.length ((N.flatMap Prm.vals).map .v) 60),(25,.cells [nq,ii 0,nq] 25),(24,.pin plp),(0,.cells (qJ tk inp rg tt) 96),(1,.rwin 8 N.length (N.flatMap Prm.vals)),(2,.rwin 4 S.length (S.flatMap Syn.vals)),(6,.rwin 4 m.length (m.flatMap Mrk.vals))]) (fun _=>True) (m.length) trivial ?_ ?_
 ·intro i hi hJ ih
  refine Run.W2 hc ?_
  conv=>whnf
  rw[decide_eq_true (show((i:Nat):Int)<(m.length:Int)by omega)]
  conv=>whnf
  refine⟨by omega,?_⟩
  conv=>whnf
  rw[jI (f:=Mrk.vals) (l:=m) i rfl rfl rfl rfl rfl Mrk.vlen (by rw[qQ]) hi]
  conv=>whnf
  have hlY:=wC S m i
  have hiY:i<(nowY S m i).length:=by omega
  have hgY:(nowY S m i).getD i zC=(nowY S m i)[i]:=by simp[List.getD_eq_getElem?_getD,hiY]
  have hgm:m.getD i qW=m[i]:=by simp[List.getD_eq_getElem?_getD,hi]
  refine⟨by omega,?_⟩
  conv=>whnf
  rw[yT (f:=Syn.cells) (l:=nowY S m i) i 2 { (nowY S m i)[i]with w:=m[i].w } rfl rfl rfl rfl rfl Syn.clen (by rw[qQ]) hiY (by decide) rfl rfl rfl]
  rw[show(nowY S m i).set i { (nowY S m i)[i]with w:=m[i].w }=nowY S m (i+1)by rw[tW];unfold nowSt;rw[hgY,hgm]]
  conv=>whnf
  refine Run.tH (ih trivial) ?_ ?_ (lbx hLB rfl)
  ·exact⟨⟨rfl,ltb rfl⟩,⟨rfl,ltb rfl⟩,⟨rfl,ltb rfl⟩,⟨rfl,trivial⟩,⟨wsx (by omega),trivial⟩,trivial⟩
  ·exact⟨⟨rfl,by omega,yH _ _⟩,⟨rfl,ltb rfl,qE _ rfl⟩,⟨rfl,by omega,Os.h _⟩,⟨rfl,ltb rfl,qE _ rfl⟩,⟨rfl,by omega,pnx hcov rfl⟩,⟨rfl,by omega,SV.s7 (by decide) hsc⟩,⟨rfl,ltb rfl,trivial⟩,⟨rfl,ltb rfl,trivial⟩,⟨rfl,ltb rfl,trivial⟩,trivial⟩
 ·intro hJ
  refine Run.W2 hc ?_
  conv=>whnf
  rw[decide_eq_false (show ¬((m.length:Nat):Int)<(m.length:Int)by omega)]
  conv=>whnf
  refine SpecR.rT (rq [(24,32),(25,45)]) (fun i hi=>zG (zA (B:=24) rfl hi)) ?_ (Widens.refl _ _) hLB (by decide) hcov rfl rfl ⟨(show 24<26 by decide),trivial,ltb rfl,trivial⟩ ?_
  ·intro i hi j hj hne
   have inj :∀i,i<26 → ∀j,j<26→i≠j→rq [(24,32),(25,45)] i≠rq [(24,32),(25,45)] j:=by decide
   exact inj i hi j hj hne
  ·exact⟨⟨by rw[ofx (o:=.row 8 N.length ((N.flatMap Prm.vals).map .v) 60) (qL _ _)];rfl,by omega,Os.h _⟩,⟨by rw[ofx (o:=.row 4 S.length ((nowL S m).flatMap Syn.cells) 55) (yH _ _)];rfl,by omega,yH _ _⟩,
    ⟨by rw[oren_fix (S:=(· < 24)) (fun i hi=>zG (zA (B:=24) rfl hi)) (o:=.cells (qJ tk inp rg tt) 96) hsc];rfl,by omega,SV.s7 (by decide) hsc⟩,trivial⟩
end Go.Proofs.Ytnnlpdgnlccbjaa
namespace Go.Proofs.Ytnnlpdgnlccbjaa
open Go.Sx
instance (l:List Syn):Vs (l.flatMap Syn.cells):=⟨fun S=>yH S l⟩
set_option maxRecDepth 100000
set_option maxHeartbeats 2000000
structure Evt where
 tick:Int
 id:Int
 deriving DecidableEq
def Evt.vals (x:Evt):List Value:=[.int .i64 x.tick,.int .i64 x.id]
def Evt.cells (x:Evt):List SV:=[ii x.tick,ii x.id]
theorem Evt.vlen (x:Evt):x.vals.length=2:=rfl
theorem Evt.clen (x:Evt):x.cells.length=2:=rfl
structure Prz where
 tick:Int
 id:Int
 val:Int
 deriving DecidableEq
def Prz.vals (x:Prz):List Value:=[.int .i64 x.tick,.int .i64 x.id,.int .i64 x.val]
theorem Prz.vlen (x:Prz):x.vals.length=3:=rfl
def evt0:Evt:=⟨0,0⟩
def prz0:Prz:=⟨0,0,0⟩
def evAt (inp lim:Int)(l:List Evt)(i:Nat):Int:=
 if (wi (l.getD i evt0).tick 0 (W (lim-1))&&wi (l.getD i evt0).id 0 (W (inp-1)))=false then 3
 else if 0<i∧((l.getD i evt0).tick<(l.getD (i-1) evt0).tick∨(l.getD i evt0).tick=(l.getD (i-1) evt0).tick∧(l.getD i evt0).id≤(l.getD (i-1) evt0).id)then 2 else 0
def yJ (inp lim:Int)(l:List Evt):Int:=if 65536<(l.length:Int)then 9 else jH (evAt inp lim l) (List.range l.length)
def pzAt (rules:Int)(l:List Prz)(i:Nat):Int:=
 if (wi (l.getD i prz0).tick 0 9999&&wi (l.getD i prz0).id 0 (W (rules-1))&&wi (l.getD i prz0).val (-128) 127)=false then 3
 else if 0<i∧((l.getD i prz0).tick<(l.getD (i-1) prz0).tick∨(l.getD i prz0).tick=(l.getD (i-1) prz0).tick∧(l.getD i prz0).id≤(l.getD (i-1) prz0).id)then 2 else 0
def jX (rules:Int)(l:List Prz):Int:=if 65536<(l.length:Int)then 9 else jH (pzAt rules l) (List.range l.length)
theorem firstN_at {f:Nat→Int}{n i:Nat}(hi:i<n)(h0 :∀j,j<n→j<i→f j=0)(h:f i≠0):jH f (List.range n)=f i:=by
 have hl:i<(List.range n).length:=by simpa using hi
 have:=vL (f:=f) hl (fun j hj hji=>by simpa using h0 j (by simpa using hj) hji) (by simpa using h)
 simpa using this
theorem firstN_all {f:Nat→Int}{n:Nat}(h0 :∀j,j<n→f j=0):jH f (List.range n)=0:=xV fun j hj=>by simpa using h0 j (by simpa using hj)
theorem upN {n i:Nat}{P:Nat→Prop}(hJ :∀j,j<n→j<i→P j)(hp:P i) :∀j,j<n→j<i+1→P j:=fun j hj hji=>by
 rcases Nat.lt_or_ge j i with h|h
 ·exact hJ j hj h
 ·have:j=i:=by omega
  subst this;exact hp
theorem nordered_run (vN vS:Value)(n:Net)(vE:Value)(l:List Evt)(lim:Int)(w:World)(hn:xU w vN vS n)(hr:RowsAt w vE 2 l.length (l.flatMap Evt.vals)) :
  Calls Try.prog 91 #[netV vN vS n,vE,.int .i64 lim] w fun e w'=>e = .returned (.int .i64 (yJ n.inp lim l))∧Ext w w':=by
 have hc :∀L,Cx.ok ⟨Try.prog,tab,[(76,F3 fun n lo hi=>.bool (wi n lo hi))],91,Try.f91,[],w,L,none⟩:=fun L=>⟨qI,⟨v7,trivial⟩,Try.func91,mixed,fun _ h=>by cases h⟩
 obtain⟨h1,h2⟩:=hn
 obtain⟨N,inp,S⟩:=n
 simp only at h1 h2
 have hrows:AllP (fun x:Value×Nat×Nat×List Value=>RowsAt w x.1 x.2.1 x.2.2.1 x.2.2.2) [(vN,8,N.length,N.flatMap Prm.vals),(vS,4,S.length,S.flatMap Syn.vals),(vE,2,l.length,l.flatMap Evt.vals)]:=⟨h1,h2,hr,trivial⟩
 refine Run.rH Try.func91 rfl _ hrows [.agg [.opq 0,ii inp,.opq 1],.opq 2,ii lim] [netV vN vS ⟨N,inp,S⟩,vE,.int .i64 lim] [(0,.rwin 8 N.length (N.flatMap Prm.vals)),(1,.rwin 4 S.length (S.flatMap Syn.vals)),(2,.rwin 2 l.length (l.flatMap Evt.vals))] 3 rfl rfl
  (by show [Value.agg [(SV.opq 0).conc _,.int .i64 inp,(SV.opq 1).conc _].toArray,(SV.opq 2).conc _,.int .i64 lim]=_;rw[qM hrows (k:=0) rfl,qM hrows (k:=1) rfl,qM hrows (k:=2) rfl];rfl) (by simp[SV.scs,SV.sc]) rfl (Run.s0 (hc _) 1000 _ ?_)
 conv=>whnf
 have fin :∀x:Int,yJ inp lim l=x → ∀{M:List (Nat×SObj)} {n:Nat} {c:Cx},c.w0=w→c.L=[]→RetOk c M n (.v (.int .i64 x)) (fun e w'=>e = .returned (.int .i64 (yJ inp lim l))∧Ext w w'):=
  fun x hx M n c hw hL=>⟨fun ρ w' hW _=>⟨by rw[hx];rfl,by rw[hw,hL]at hW;exact hW.toExt⟩⟩
 cases e1:decide (65536<(l.length:Int))
 case true=>
  conv=>whnf
  exact fin 9 (by unfold yJ;rw[if_pos (of_decide_eq_true e1)]) rfl rfl
 have e1':=of_decide_eq_false e1
 conv=>whnf
 refine Run.lJ (T:=fun i=>[(1,.opq 2),(2,ii lim),(3,.ptr 3 0),(6,ii 0),(12,.opq 2),(13,ii (l.length:Int)),(14,ii (i:Int))]) (M:=fun i=>[(3,.cells [.opq 0,ii inp,.opq 1] 25),(0,.rwin 8 N.length (N.flatMap Prm.vals)),(1,.rwin 4 S.length (S.flatMap Syn.vals)),(2,.rwin 2 l.length (l.flatMap Evt.vals))]) 4 (fun i=> ∀j,j<l.length→j<i→evAt inp lim l j=0) (l.length) (by repeat first|exact trivial|refine⟨⟨rfl,ltb rfl⟩,?_⟩|refine⟨⟨rfl,trivial⟩,?_⟩) ⟨⟨rfl,ltb rfl,qE _ rfl⟩,⟨rfl,ltb rfl,trivial⟩,⟨rfl,ltb rfl,trivial⟩,⟨rfl,ltb rfl,trivial⟩,trivial⟩ (fun q hq=>by cases hq) ?_ ?_ ?_
 ·exact fun j _ h=>absurd h (Nat.not_lt_zero j)
 ·intro i hi hJ ih
  refine Run.W1 (hc _) ?_
  conv=>whnf
  rw[decide_eq_true (show((i:Nat):Int)<(l.length:Int)by omega)]
  conv=>whnf
  have hgi:l.getD i evt0=l[i]:=by simp[List.getD_eq_getElem?_getD,hi]
  have three :∀x,evAt inp lim l i=x→x≠0→yJ inp lim l=x:=fun x hx hx0=>by
   unfold yJ
   rw[if_neg e1',firstN_at hi (fun j hj hji=>hJ j hj hji) (by rw[hx];exact hx0),hx]
  refine⟨by omega,?_⟩
  conv=>whnf
  rw[jI (f:=Evt.vals) (l:=l) i rfl rfl rfl rfl rfl Evt.vlen (by rw[qQ]) hi]
  conv=>whnf
  cases b0:wi l[i].tick 0 (IntKind.i64.wrap (lim-1))
  case false=>
   conv=>whnf
   exact fin 3 (three 3 (by unfold evAt W;rw[hgi,b0];rfl) (by decide)) rfl rfl
  conv=>whnf
  cases b1:wi l[i].id 0 (IntKind.i64.wrap (inp-1))
  case false=>
   conv=>whnf
   exact fin 3 (three 3 (by unfold evAt W;rw[hgi,b0,b1];rfl) (by decide)) rfl rfl
  conv=>whnf
  refine Run.draw (hc _) 32 ?_
  rw[show qG 0 32=qG 0 2++(qG 2 7++(qG 9 2++(qG 11 1++(qG 12 7++(qG 19 2++(qG 21 1++(qG 22 7++(qG 29 2++qG 31 1))))))))from rfl]
  simp only[qV]
  conv=>whnf
  cases b5:decide ((0:Int)<(i:Int))
  case false=>
   have hi0:=of_decide_eq_false b5
   conv=>whnf
   refine⟨by kernel_rfl,?_⟩
   refine Run.W1 (hc _) ?_
   conv=>whnf
   rw[z8 (i:=i) (by omega)]
   exact Run.tH (ih (upN hJ (by unfold evAt W;rw[hgi,b0,b1,if_neg (by decide),if_neg (fun h=>hi0 (by omega))]))) (by repeat first|exact trivial|refine⟨⟨rfl,ltb rfl⟩,?_⟩|refine⟨⟨rfl,trivial⟩,?_⟩) ⟨⟨rfl,ltb rfl,qE _ rfl⟩,⟨rfl,ltb rfl,trivial⟩,⟨rfl,ltb rfl,trivial⟩,⟨rfl,ltb rfl,trivial⟩,trivial⟩ (fun q hq=>by cases hq)
  have hi0:0<i:=by have:=of_decide_eq_true b5;omega
  have him:i-1<l.length:=by omega
  have hgm:l.getD (i-1) evt0=l[i-1]:=by simp[List.getD_eq_getElem?_getD,him]
  have hwr:IntKind.i64.wrap ((i:Int)-1)=((i-1:Nat):Int):=by
   have:=zL (a:=(i:Int)-1) (by omega) (by omega)
   have e:IntKind.i64.wrap ((i:Int)-1)=(i:Int)-1:=this
   omega
  conv=>whnf
  rw[hwr]
  refine⟨by omega,?_⟩
  conv=>whnf
  rw[q9 (f:=Evt.vals) (l:=l) (c:=.int .i64 l[i-1].tick) (i-1) 0 rfl rfl rfl rfl Evt.vlen (by rw[qQ]) him (by decide) rfl]
  conv=>whnf
  cases b6:decide (l[i].tick<l[i-1].tick)
  case true=>
   have b6':=of_decide_eq_true b6
   conv=>whnf
   refine⟨by kernel_rfl,?_⟩
   refine Run.W1 (hc _) ?_
   conv=>whnf
   exact fin 2 (three 2 (by unfold evAt W;rw[hgi,hgm,b0,b1,if_neg (by decide),if_pos ⟨hi0,.inl b6'⟩]) (by decide)) rfl rfl
  have b6':=of_decide_eq_false b6
  conv=>whnf
  rw[hwr]
  refine⟨by omega,?_⟩
  conv=>whnf
  rw[q9 (f:=Evt.vals) (l:=l) (c:=.int .i64 l[i-1].tick) (i-1) 0 rfl rfl rfl rfl Evt.vlen (by rw[qQ]) him (by decide) rfl]
  conv=>whnf
  cases b7:(l[i].tick==l[i-1].tick)
  case false=>
   have b7' :¬l[i].tick=l[i-1].tick:=by simpa using b7
   conv=>whnf
   refine⟨by kernel_rfl,?_⟩
   refine Run.W1 (hc _) ?_
   conv=>whnf
   rw[z8 (i:=i) (by omega)]
   exact Run.tH (ih (upN hJ (by unfold evAt W;rw[hgi,hgm,b0,b1,if_neg (by decide),if_neg (fun h=>h.2.elim b6' fun h=>b7' h.1)]))) (by repeat first|exact trivial|refine⟨⟨rfl,ltb rfl⟩,?_⟩|refine⟨⟨rfl,trivial⟩,?_⟩) ⟨⟨rfl,ltb rfl,qE _ rfl⟩,⟨rfl,ltb rfl,trivial⟩,⟨rfl,ltb rfl,trivial⟩,⟨rfl,ltb rfl,trivial⟩,trivial⟩ (fun q hq=>by cases hq)
  have b7':l[i].tick=l[i-1].tick:=by simpa using b7
  conv=>whnf
  rw[hwr]
  refine⟨by omega,?_⟩
  conv=>whnf
  rw[q9 (f:=Evt.vals) (l:=l) (c:=.int .i64 l[i-1].id) (i-1) 1 rfl rfl rfl rfl Evt.vlen (by rw[qQ]) him (by decide) rfl]
  conv=>whnf
  cases b8:decide (l[i].id≤l[i-1].id)
  case true=>
   have b8':=of_decide_eq_true b8
   conv=>whnf
   refine⟨by kernel_rfl,?_⟩
   refine Run.W1 (hc _) ?_
   conv=>whnf
   exact fin 2 (three 2 (by unfold evAt W;rw[hgi,hgm,b0,b1,if_neg (by decide),if_pos ⟨hi0,.inr ⟨b7',b8'⟩⟩]) (by decide)) rfl rfl
  have b8':=of_decide_eq_false b8
  conv=>whnf
  refine⟨by kernel_rfl,?_⟩
  refine Run.W1 (hc _) ?_
  conv=>whnf
  rw[z8 (i:=i) (by omega)]
  exact Run.tH (ih (upN hJ (by unfold evAt W;rw[hgi,hgm,b0,b1,if_neg (by decide),if_neg (fun h=>h.2.elim b6' fun h=>b8' h.2)]))) (by repeat first|exact trivial|refine⟨⟨rfl,ltb rfl⟩,?_⟩|refine⟨⟨rfl,trivial⟩,?_⟩) ⟨⟨rfl,ltb rfl,qE _ rfl⟩,⟨rfl,ltb rfl,trivial⟩,⟨rfl,ltb rfl,trivial⟩,⟨rfl,ltb rfl,trivial⟩,trivial⟩ (fun q hq=>by cases hq)
 ·intro hJ
  refine Run.W1 (hc _) ?_
  conv=>whnf
  rw[decide_eq_false (show ¬((l.length:Nat):Int)<(l.length:Int)by omega)]
  conv=>whnf
  exact fin 0 (by unfold yJ;rw[if_neg e1',firstN_all fun j hj=>hJ j hj hj]) rfl rfl
theorem tT (rules:Int)(vE:Value)(l:List Prz)(w:World)(hr:RowsAt w vE 3 l.length (l.flatMap Prz.vals)) :
  Calls Try.prog 51 #[.int .i64 rules,vE] w fun e w'=>e = .returned (.int .i64 (jX rules l))∧Ext w w':=by
 have hc :∀L,Cx.ok ⟨Try.prog,tab,[(44,F3 fun n lo hi=>.bool (wi n lo hi))],51,Try.f51,[],w,L,none⟩:=fun L=>⟨qI,⟨v5,trivial⟩,Try.func51,mixed,fun _ h=>by cases h⟩
 have hrows:AllP (fun x:Value×Nat×Nat×List Value=>RowsAt w x.1 x.2.1 x.2.2.1 x.2.2.2) [(vE,3,l.length,l.flatMap Prz.vals)]:=⟨hr,trivial⟩
 refine Run.rH Try.func51 rfl _ hrows [ii rules,.opq 0] [.int .i64 rules,vE] [(0,.rwin 3 l.length (l.flatMap Prz.vals))] 1 rfl rfl
  (by show [Value.int .i64 rules,(SV.opq 0).conc _]=_;rw[qM hrows (k:=0) rfl]) (by simp[SV.scs,SV.sc]) rfl (Run.s0 (hc _) 1000 _ ?_)
 conv=>whnf
 have fin :∀x:Int,jX rules l=x → ∀{M:List (Nat×SObj)} {n:Nat} {c:Cx},c.w0=w→c.L=[]→RetOk c M n (.v (.int .i64 x)) (fun e w'=>e = .returned (.int .i64 (jX rules l))∧Ext w w'):=
  fun x hx M n c hw hL=>⟨fun ρ w' hW _=>⟨by rw[hx];rfl,by rw[hw,hL]at hW;exact hW.toExt⟩⟩
 cases e1:decide (65536<(l.length:Int))
 case true=>
  conv=>whnf
  exact fin 9 (by unfold jX;rw[if_pos (of_decide_eq_true e1)]) rfl rfl
 have e1':=of_decide_eq_false e1
 conv=>whnf
 refine Run.lJ (T:=fun i=>[(0,ii rules),(1,.opq 0),(4,ii 0),(10,.opq 0),(11,ii (l.length:Int)),(12,ii (i:Int))]) (M:=fun i=>[(0,.rwin 3 l.length (l.flatMap Prz.vals))]) 1 (fun i=> ∀j,j<l.length→j<i→pzAt rules l j=0) (l.length) ⟨⟨rfl,trivial⟩,⟨rfl,ltb rfl⟩,⟨rfl,trivial⟩,⟨rfl,ltb rfl⟩,⟨rfl,trivial⟩,⟨rfl,trivial⟩,trivial⟩ ⟨⟨rfl,ltb rfl,trivial⟩,trivial⟩ (fun q hq=>by cases hq) ?_ ?_ ?_
 ·exact fun j _ h=>absurd h (Nat.not_lt_zero j)
 ·intro i hi hJ ih
  refine Run.W1 (hc _) ?_
  conv=>whnf
  rw[decide_eq_true (show((i:Nat):Int)<(l.length:Int)by omega)]
  conv=>whnf
  have hgi:l.getD i prz0=l[i]:=by simp[List.getD_eq_getElem?_getD,hi]
  have three :∀x,pzAt rules l i=x→x≠0→jX rules l=x:=fun x hx hx0=>by
   unfold jX
   rw[if_neg e1',firstN_at hi (fun j hj hji=>hJ j hj hji) (by rw[hx];exact hx0),hx]
  refine⟨by omega,?_⟩
  conv=>whnf
  rw[jI (f:=Prz.vals) (l:=l) i rfl rfl rfl rfl rfl Prz.vlen (by rw[qQ]) hi]
  conv=>whnf
  cases b0:wi l[i].tick 0 9999
  case false=>
   conv=>whnf
   exact fin 3 (three 3 (by unfold pzAt W;rw[hgi,b0];rfl) (by decide)) rfl rfl
  conv=>whnf
  cases b1:wi l[i].id 0 (IntKind.i64.wrap (rules-1))
  case false=>
   conv=>whnf
   exact fin 3 (three 3 (by unfold pzAt W;rw[hgi,b0,b1];rfl) (by decide)) rfl rfl
  conv=>whnf
  cases b2:wi l[i].val (-128) 127
  case false=>
   conv=>whnf
   exact fin 3 (three 3 (by unfold pzAt W;rw[hgi,b0,b1,b2];rfl) (by decide)) rfl rfl
  conv=>whnf
  refine Run.draw (hc _) 32 ?_
  rw[show qG 0 32=qG 0 2++(qG 2 7++(qG 9 2++(qG 11 1++(qG 12 7++(qG 19 2++(qG 21 1++(qG 22 7++(qG 29 2++qG 31 1))))))))from rfl]
  simp only[qV]
  conv=>whnf
  cases b5:decide ((0:Int)<(i:Int))
  case false=>
   have hi0:=of_decide_eq_false b5
   conv=>whnf
   refine⟨by kernel_rfl,?_⟩
   refine Run.W1 (hc _) ?_
   conv=>whnf
   rw[z8 (i:=i) (by omega)]
   exact Run.tH (ih (upN hJ (by unfold pzAt W;rw[hgi,b0,b1,b2,if_neg (by decide),if_neg (fun h=>hi0 (by omega))]))) ⟨⟨rfl,trivial⟩,⟨rfl,ltb rfl⟩,⟨rfl,trivial⟩,⟨rfl,ltb rfl⟩,⟨rfl,trivial⟩,⟨rfl,trivial⟩,trivial⟩ ⟨⟨rfl,ltb rfl,trivial⟩,trivial⟩ (fun q hq=>by cases hq)
  have hi0:0<i:=by have:=of_decide_eq_true b5;omega
  have him:i-1<l.length:=by omega
  have hgm:l.getD (i-1) prz0=l[i-1]:=by simp[List.getD_eq_getElem?_getD,him]
  have hwr:IntKind.i64.wrap ((i:Int)-1)=((i-1:Nat):Int):=by
   have:=zL (a:=(i:Int)-1) (by omega) (by omega)
   have e:IntKind.i64.wrap ((i:Int)-1)=(i:Int)-1:=this
   omega
  conv=>whnf
  rw[hwr]
  refine⟨by omega,?_⟩
  conv=>whnf
  rw[q9 (f:=Prz.vals) (l:=l) (c:=.int .i64 l[i-1].tick) (i-1) 0 rfl rfl rfl rfl Prz.vlen (by rw[qQ]) him (by decide) rfl]
  conv=>whnf
  cases b6:decide (l[i].tick<l[i-1].tick)
  case true=>
   have b6':=of_decide_eq_true b6
   conv=>whnf
   refine⟨by kernel_rfl,?_⟩
   refine Run.W1 (hc _) ?_
   conv=>whnf
   exact fin 2 (three 2 (by unfold pzAt W;rw[hgi,hgm,b0,b1,b2,if_neg (by decide),if_pos ⟨hi0,.inl b6'⟩]) (by decide)) rfl rfl
  have b6':=of_decide_eq_false b6
  conv=>whnf
  rw[hwr]
  refine⟨by omega,?_⟩
  conv=>whnf
  rw[q9 (f:=Prz.vals) (l:=l) (c:=.int .i64 l[i-1].tick) (i-1) 0 rfl rfl rfl rfl Prz.vlen (by rw[qQ]) him (by decide) rfl]
  conv=>whnf
  cases b7:(l[i].tick==l[i-1].tick)
  case false=>
   have b7' :¬l[i].tick=l[i-1].tick:=by simpa using b7
   conv=>whnf
   refine⟨by kernel_rfl,?_⟩
   refine Run.W1 (hc _) ?_
   conv=>whnf
   rw[z8 (i:=i) (by omega)]
   exact Run.tH (ih (upN hJ (by unfold pzAt W;rw[hgi,hgm,b0,b1,b2,if_neg (by decide),if_neg (fun h=>h.2.elim b6' fun h=>b7' h.1)]))) ⟨⟨rfl,trivial⟩,⟨rfl,ltb rfl⟩,⟨rfl,trivial⟩,⟨rfl,ltb rfl⟩,⟨rfl,trivial⟩,⟨rfl,trivial⟩,trivial⟩ ⟨⟨rfl,ltb rfl,trivial⟩,trivial⟩ (fun q hq=>by cases hq)
  have b7':l[i].tick=l[i-1].tick:=by simpa using b7
  conv=>whnf
  rw[hwr]
  refine⟨by omega,?_⟩
  conv=>whnf
  rw[q9 (f:=Prz.vals) (l:=l) (c:=.int .i64 l[i-1].id) (i-1) 1 rfl rfl rfl rfl Prz.vlen (by rw[qQ]) him (by decide) rfl]
  conv=>whnf
  cases b8:decide (l[i].id≤l[i-1].id)
  case true=>
   have b8':=of_decide_eq_true b8
   conv=>whnf
   refine⟨by kernel_rfl,?_⟩
   refine Run.W1 (hc _) ?_
   conv=>whnf
   exact fin 2 (three 2 (by unfold pzAt W;rw[hgi,hgm,b0,b1,b2,if_neg (by decide),if_pos ⟨hi0,.inr ⟨b7',b8'⟩⟩]) (by decide)) rfl rfl
  have b8':=of_decide_eq_false b8
  conv=>whnf
  refine⟨by kernel_rfl,?_⟩
  refine Run.W1 (hc _) ?_
  conv=>whnf
  rw[z8 (i:=i) (by omega)]
  exact Run.tH (ih (upN hJ (by unfold pzAt W;rw[hgi,hgm,b0,b1,b2,if_neg (by decide),if_neg (fun h=>h.2.elim b6' fun h=>b8' h.2)]))) ⟨⟨rfl,trivial⟩,⟨rfl,ltb rfl⟩,⟨rfl,trivial⟩,⟨rfl,ltb rfl⟩,⟨rfl,trivial⟩,⟨rfl,trivial⟩,trivial⟩ ⟨⟨rfl,ltb rfl,trivial⟩,trivial⟩ (fun q hq=>by cases hq)
 ·intro hJ
  refine Run.W1 (hc _) ?_
  conv=>whnf
  rw[decide_eq_false (show ¬((l.length:Nat):Int)<(l.length:Int)by omega)]
  conv=>whnf
  exact fin 0 (by unfold jX;rw[if_neg e1',firstN_all fun j hj=>hJ j hj hj]) rfl rfl
end Go.Proofs.Ytnnlpdgnlccbjaa
namespace Go.Sx
theorem run_zeroV {P:Program}(w:World){t:TypeId}{inf:TypeInfo}{z:Value}(hi:P.info? t=some inf)(hz:inf.zero=some z):(zeroValue t).run P w = .ok z w:=by
 simp[zeroValue,typeInfo,hi,hz]
theorem zeroCells_one (zv:Value)(m:Nat):(Builtin.zeroCells #[zv] m).toList=List.replicate m zv:=by
 unfold Builtin.zeroCells
 refine List.ext_getElem (by simp) fun i h1 h2=> ?_
 simp[Nat.mod_one]
theorem Run.clear1 {c:Cx}(hc:c.ok){T:List (Nat×SV)}{M:List (Nat×SObj)}{n:Nat}{D:List Deferred}{ops:Array Oper}{i:Nat}{r:List Nat}{k:List Item}{R:Ending→World→Prop}{o:Oper}{x:Operand}{t:TypeId}
  (ho:get ops.toList i=some o) (hop:o.op = .call { callee:=.builtin .clear,args:= #[x],argTypes:= #[t] }) (hw:zQ ops.toList (look T) o=some true) (hd:okD c.fn.ntmps o.dst=true)
  {j m:Nat} {xs:List SV} {te:TypeId} (hx:ev (look T) x=some (.opq j)) (hj:look M j=some (.row 1 m xs te))
  {ti tie:TI} {bytes:Nat} (hti:look c.tab t=some ti) (hsh:ti.sh = .slc te 1 bytes) (hte:look c.tab te=some tie) {zv:Value} (hz:tie.zero=[zv]) (h1:zv.oneCell'=true)
  (h:Run c ⟨z5 T o.dst (.tup []),(j,.row 1 m (List.replicate m (.v zv)) te)::M,n,D,.inRegion ops r::k⟩ R):Run c ⟨T,M,n,D,.inRegion ops (i::r)::k⟩ R:=by
 refine⟨fun ρ a w hi=> ?_⟩
 rw[q8,Array.getElem?_toList]at ho
 refine TW.op ho (zI hi.tm hw) ?_
 obtain⟨hx1,_⟩:=qO hi.tm hx
 have hti:=Tab.ok_look hc.tab hti
 have hte:=Tab.ok_look hc.tab hte
 obtain⟨d,hd1,hd2⟩:=hti.desc
 obtain⟨inf,rfl,g2,g3,g4⟩:=sh_desc.2.2.2.2.1 te 1 bytes (hd2.trans hsh)
 obtain⟨inf',z,i1,_,i3,i4⟩:=hte.infos
 rw[g2]at i1
 obtain rfl:=Option.some.inj i1
 have hzc:z.cells = #[zv]:=by rw[hz]at i4;rw[←i4]
 obtain⟨hjn,hscr,hoff,hlen,hrow⟩:=hi.wi.mem j _ hj
 have hund:(underlying t).run c.P w = .ok (.slice te) w:=by simp[underlying,hd1]
 have key :∀w',(execOp a.eval o).run c.P w = .ok (.value (.tuple #[])) w'→WI c.w0 c.L ρ (upd (look M) j (.row 1 m (List.replicate m (.v zv)) te)) (· < n) w'→Oc c.P a o w fun v w'=>TW c.P c.f c.rr (a.put o.dst v) (.inRegion ops r::k) w' R:=by
  intro w' hr hW'
  refine Oc.value (v:=.tuple #[]) hr ?_
  rw[←qX]at hW'
  have hinv:=hi.put (ρ':=ρ) hd (Env.agree.refl _ ρ) (Nat.le_refl n) (v:=.tup []) trivial hW' (.inRegion ops r::k)
  exact h.go _ _ w' hinv
 have hl0:m=0→xs=[]:=fun h0=>List.eq_nil_of_length_eq_zero (by rw[hlen,h0,Nat.zero_mul])
 have same:m=0→WI c.w0 c.L ρ (upd (look M) j (.row 1 m (List.replicate m (.v zv)) te)) (· < n) w:=fun h0=>by
  have e:upd (look M) j (.row 1 m (List.replicate m (.v zv)) te)=look M:=by
   funext q
   unfold upd
   split
   ·rename_i e;subst e;rw[hj,hl0 h0,h0];rfl
   ·rfl
  rw[e];exact hi.wi
 rcases hrow with⟨hh,h0⟩|⟨cap,sp,hh,hcap,hheap⟩
 ·refine key w ?_ (same h0)
  simp only[SV.conc,hh]at hx1
  simp[execOp,hop,resolve,invoke,builtin,hx1,Builtin.clear_,hund]
 ·simp only[SV.conc,hh]at hx1
  rcases Nat.eq_zero_or_pos m with h0|h0
  ·refine key w ?_ (same h0)
   subst h0
   simp[execOp,hop,resolve,invoke,builtin,hx1,Builtin.clear_,hund]
  ·have hst:=gY (P:=c.P) (ρ.s j) 0 te (List.replicate m zv) 0 (SV.concs ρ xs++sp) w hheap (by simp[qT];omega) (fun v hv=>by rw[List.eq_of_mem_replicate hv];exact h1)
   have hl2:List.take (0+0) (SV.concs ρ xs++sp)++List.replicate m zv++List.drop (0+0+(List.replicate m zv).length) (SV.concs ρ xs++sp)=SV.concs ρ (List.replicate m (.v zv))++sp:=by
    have hxl:(SV.concs ρ xs).length=m:=by rw[qT,hlen,Nat.mul_one]
    have hrep:SV.concs ρ (List.replicate m (.v zv))=List.replicate m zv:=by rw[z3,List.map_replicate];rfl
    rw[hrep,List.length_replicate,Nat.zero_add,Nat.zero_add,List.take_zero,List.nil_append]
    conv=>lhs;rw[←hxl]
    rw[List.drop_left,hxl]
   rw[hl2]at hst
   have hscs:SV.scs (· < n) (List.replicate m (SV.v zv)):=by
    rw[kS];intro a ha;rw[List.eq_of_mem_replicate ha];trivial
   refine key (w.setRow (ρ.s j) (SV.concs ρ (List.replicate m (.v zv))++sp).toArray) ?_ ?_
   ·have hz2:=run_zeroV (P:=c.P) w g2 i3
    obtain⟨m',rfl⟩ :∃m',m=m'+1:=⟨m-1,by omega⟩
    simp[execOp,hop,resolve,invoke,builtin,hx1,Builtin.clear_,hund,hz2,hzc,zeroCells_one,hst]
   ·refine hi.wi.write (o':=.row 1 m (List.replicate m (.v zv)) te) hj (by simp[SObj.occ,hh]) hscs (setRow_heap w _ _ _ _ _ hheap) (fun hheap'=> ?_) (fun q hq=>setRow_other w _ _ _ hq) (setRow_size w _ _) rfl rfl rfl
    exact⟨hoff,by simp,.inr ⟨cap,sp,hh,hcap,hheap'⟩⟩
end Go.Sx
namespace Go.Proofs.Ytnnlpdgnlccbjaa
open Go.Sx
set_option maxRecDepth 100000
set_option maxHeartbeats 4000000
def zO (n:Net)(l:List Evt)(ticks lim:Int):Int:=if jA n≠0 then jA n else if wi ticks 0 lim=false then 3 else yJ n.inp lim l
theorem t5 (vN vS:Value)(n:Net)(vE:Value)(l:List Evt)(ticks lim:Int)(w:World)(hn:xU w vN vS n)(hr:RowsAt w vE 2 l.length (l.flatMap Evt.vals)) :
  Calls Try.prog 58 #[netV vN vS n,vE,.int .i64 ticks,.int .i64 lim] w fun e w'=>e = .returned (.int .i64 (zO n l ticks lim))∧Ext w w':=by
 have hpf:PF.oks Try.prog [(76,F3 fun n lo hi=>.bool (wi n lo hi))]:=⟨v7,trivial⟩
 have hc :∀L,Cx.ok ⟨Try.prog,tab,[(76,F3 fun n lo hi=>.bool (wi n lo hi))],58,Try.f58,[],w,L,none⟩:=fun L=>⟨qI,hpf,Try.func58,mixed,fun _ h=>by cases h⟩
 obtain⟨h1,h2⟩:=hn
 obtain⟨N,inp,S⟩:=n
 simp only at h1 h2
 have hrows:AllP (fun x:Value×Nat×Nat×List Value=>RowsAt w x.1 x.2.1 x.2.2.1 x.2.2.2) [(vN,8,N.length,N.flatMap Prm.vals),(vS,4,S.length,S.flatMap Syn.vals),(vE,2,l.length,l.flatMap Evt.vals)]:=⟨h1,h2,hr,trivial⟩
 refine Run.rH Try.func58 rfl _ hrows [.agg [.opq 0,ii inp,.opq 1],.opq 2,ii ticks,ii lim] [netV vN vS ⟨N,inp,S⟩,vE,.int .i64 ticks,.int .i64 lim] [(0,.rwin 8 N.length (N.flatMap Prm.vals)),(1,.rwin 4 S.length (S.flatMap Syn.vals)),(2,.rwin 2 l.length (l.flatMap Evt.vals))] 3 rfl rfl
  (by show [Value.agg [(SV.opq 0).conc _,.int .i64 inp,(SV.opq 1).conc _].toArray,(SV.opq 2).conc _,_,_]=_;rw[qM hrows (k:=0) rfl,qM hrows (k:=1) rfl,qM hrows (k:=2) rfl];rfl) (by simp[SV.scs,SV.sc]) rfl (Run.s0 (hc _) 1000 _ ?_)
 conv=>whnf
 obtain⟨ck,hck⟩ :∃ck,jA ⟨N,inp,S⟩=ck:=⟨_,rfl⟩
 refine Run.rB (g:=42) (vs:=[.agg [.opq 0,ii inp,.opq 1]]) (caps:=[]) (ii ck) (fun ρ w1 hW=>by
  rw[←hck]
  exact tV ((SV.opq 0).conc ρ) ((SV.opq 1).conc ρ) ⟨N,inp,S⟩ w1 ⟨hW.rowsAt rfl,hW.rowsAt rfl⟩) (ent _ _ Try.func42 (by kernel_rfl) rfl) rfl rfl rfl rfl rfl rfl rfl trivial ?_
 refine Run.W1 (hc _) ?_
 conv=>whnf
 cases e1:ck != 0
 case true=>
  conv=>whnf
  have e1':ck≠0:=by simpa using e1
  exact⟨fun ρ w' hW _=>⟨by unfold zO;rw[hck,if_pos e1'];rfl,hW.toExt⟩⟩
 have e1' :¬ck≠0:=by simpa using e1
 conv=>whnf
 cases e2:wi ticks 0 lim
 case false=>
  conv=>whnf
  exact⟨fun ρ w' hW _=>⟨by unfold zO;rw[hck,if_neg e1',if_pos e2];rfl,hW.toExt⟩⟩
 conv=>whnf
 refine Run.rB (g:=91) (vs:=[.agg [.opq 0,ii inp,.opq 1],.opq 2,ii lim]) (caps:=[]) (ii (yJ inp lim l)) (fun ρ w1 hW=>
  nordered_run ((SV.opq 0).conc ρ) ((SV.opq 1).conc ρ) ⟨N,inp,S⟩ ((SV.opq 2).conc ρ) l lim w1 ⟨hW.rowsAt rfl,hW.rowsAt rfl⟩ (hW.rowsAt rfl)) (ent _ _ Try.func91 (by kernel_rfl) rfl) rfl rfl rfl rfl rfl rfl rfl trivial ?_
 obtain⟨ek,hek⟩ :∃ek,yJ inp lim l=ek:=⟨_,rfl⟩
 rw[hek]
 refine Run.W1 (hc _) ?_
 conv=>whnf
 exact⟨fun ρ w' hW _=>⟨by unfold zO;rw[hck,if_neg e1',if_neg (by rw[e2];decide),hek];rfl,hW.toExt⟩⟩
theorem wired_run (p:Option Addr)(m cap:Nat)(inp:Int)(w:World):Calls Try.prog 92 #[.agg #[.slice p m cap,.int .i64 inp,.slice none 0 0]] w fun en w'=> ∃b,en = .returned (.map (some b))∧Ext w w'∧w.heap.size≤b∧w'.heap[b]? = some (yL []):=by
 have hc :∀L,Cx.ok ⟨Try.prog,tab,[],92,Try.f92,[],w,L,none⟩:=fun L=>⟨qI,trivial,Try.func92,mixed,fun _ h=>by cases h⟩
 refine Run.s9 (tab:=tab) (pf:=[]) (cuts:=[]) mixed qI trivial Try.func92 rfl [.agg [.v (.slice p m cap),ii inp,nq]] 100 (by simp[SV.scs,SV.sc]) rfl ?_
 conv=>whnf
 refine Run.s0 (hc _) 100 _ ?_
 conv=>whnf
 refine⟨fun ρ w' hW _=> ?_⟩
 obtain⟨_,_,_,hm⟩:=hW.mem 1 _ rfl
 rcases hm with⟨h0,h1⟩|⟨h0,_⟩
 ·refine⟨ρ.s 1,by show Ending.returned (.map (if ρ.o 1=0 then some (ρ.s 1)else none))=_;rw[if_pos h0],hW.toExt,?_,h1⟩
  rcases hW.new 1 _ rfl h0 with⟨p,hp,_⟩|h
  ·cases hp
  ·exact h
 ·cases h0
def FWire:Mem→List SV→Option (List Nat×SV):=fun _ args=>match args with
 | [.agg [.opq _,.v (.int .i64 _),.v (.slice none 0 0)]]=>some ([],.v (.bool false))
 |_=>none
theorem mk_wired:Maker Try.prog 92 FWire where
 ent:=ent _ _ Try.func92 (by kernel_rfl) rfl
 cong M M' args hb:=rfl
 run w0 L ρ M S args e m te xs w hW hF hs:=by
  exfalso
  unfold FWire at hF
  split at hF<;>cases hF
 runM w0 L ρ M S args pk w hW hF hs:=by
  unfold FWire at hF
  split at hF
  case h_2=>cases hF
  obtain rfl:false=pk:=by simpa using hF
  exact wired_run _ _ _ _ w
def simC (inp tk:Int):List SV:=[.opq 1,ii inp,.v (.slice none 0 0),.mp 2,ii tk,.opq 3,.opq 4,.opq 5,.opq 6,.opq 7,.opq 8,.opq 9,.opq 10,.opq 11,.opq 12,.opq 13,.opq 14,.opq 15,.opq 16,.opq 17,.opq 18,.opq 19]
theorem kT (inp tk:Int):SV.scs (· < 20) (simC inp tk):=by simp[simC,SV.scs,SV.sc]
theorem row_spec (inp tk:Int)(h0:0≤tk)(h1:tk<4611686018427387904):BSpec Try.prog 93 [.ptr 0 0,ii 0] [(0,.cells (simC inp tk) 170)] 20 [0] (.opq (4+zE tk)) [(0,.cells (simC inp tk) 170)] 20:=by
 have hc :∀w L' rd,(∀p,rd=some p→p∈L')→Cx.ok ⟨Try.prog,tab,[],93,Try.f93,[],w,L',rd⟩:=fun w L' rd h=>⟨qI,trivial,Try.func93,mixed,h⟩
 refine BSpec.start (tab:=tab) (pf:=[]) (cuts:=[]) Try.func93 rfl ⟨(show 0<20 by decide),trivial,trivial⟩ rfl fun w L0 plp hL hLB hcov=>Run.s0 (hc w L0 none nofun) 100 _ ?_
 conv=>whnf
 refine Run.draw (hc w L0 none nofun) 13 ?_
 rw[show qG 0 13=qG 0 8++qG 8 5 from rfl]
 simp only[qV]
 conv=>whnf
 refine⟨by decide,?_⟩
 have hw:IntKind.i64.wrap (tk+0)=tk:=by rw[Int.add_zero];exact zL (by omega) (by omega)
 rw[hw,gZ h0]
 have hk16:=yI (t:=tk)
 generalize zE tk=k at hk16 ⊢
 conv=>whnf
 refine⟨by omega,?_⟩
 conv=>whnf
 rw[tY (c:=.opq (4+k)) rfl rfl rfl rfl (by rw[qQ];rcases lt16 hk16 with rfl|rfl|rfl|rfl|rfl|rfl|rfl|rfl|rfl|rfl|rfl|rfl|rfl|rfl|rfl|rfl<;>rfl)]
 conv=>whnf
 refine⟨by kernel_rfl,?_⟩
 refine Run.W2 hc ?_
 conv=>whnf
 exact SpecR.intro 21 (by decide) hLB (by decide) hcov rfl (by show SV.opq (sh 20 21 (4+k))=_;rw[yY (by omega)]) (show 4+k<20 by omega) ⟨⟨by rw[oren_fix (S:=(· < 20)) (fun i hi=>x5 i hi) (o:=.cells (simC inp tk) 170) (kT _ _)];rfl,by omega,kT _ _⟩,trivial⟩
theorem from_spec:BSpec Try.prog 94 [.mp 0,.v (.slice none 0 0),.opq 1] [] 2 [] (.fn 106 [.ptr 2 0,.ptr 3 0,.ptr 4 0]) [(2,.cells [.mp 0] 165),(3,.cells [.v (.slice none 0 0)] 27),(4,.cells [.opq 1] 27)] 5:=by
 have hc :∀w L' rd,(∀p,rd=some p→p∈L')→Cx.ok ⟨Try.prog,tab,[],94,Try.f94,[],w,L',rd⟩:=fun w L' rd h=>⟨qI,trivial,Try.func94,mixed,h⟩
 refine BSpec.start (tab:=tab) (pf:=[]) (cuts:=[]) Try.func94 rfl ⟨(show 0<2 by decide),trivial,ltb rfl,trivial⟩ rfl fun w L0 plp hL hLB hcov=>Run.s0 (hc w L0 none nofun) 100 _ ?_
 conv=>whnf
 exact SpecR.intro 3 (by decide) hLB (by decide) hcov rfl rfl ⟨(show 2<5 by decide),(show 3<5 by decide),ltb rfl,trivial⟩ ⟨⟨rfl,by omega,qE _ rfl⟩,⟨rfl,by omega,qE _ rfl⟩,⟨rfl,by omega,qE _ rfl⟩,trivial⟩
theorem each_spec (a:Int):BSpec Try.prog 107 [ii a,.ptr 1 0,.ptr 2 0] [(0,.kwin false []),(1,.cells [.mp 0] 165)] 3 [1] (.v (.bool true)) [(1,.cells [.mp 0] 165)] 3:=by
 have hc :∀w L' rd,(∀p,rd=some p→p∈L')→Cx.ok ⟨Try.prog,tab,[],107,Try.f107,[],w,L',rd⟩:=fun w L' rd h=>⟨qI,trivial,Try.func107,mixed,h⟩
 refine BSpec.start (tab:=tab) (pf:=[]) (cuts:=[]) Try.func107 rfl ⟨trivial,(show 1<3 by decide),ltb rfl,trivial⟩ rfl fun w L0 plp hL hLB hcov=>Run.s0 (hc w L0 none nofun) 100 _ ?_
 conv=>whnf
 refine Run.W2 hc ?_
 conv=>whnf
 exact SpecR.intro 4 (by decide) hLB (by decide) hcov rfl rfl trivial ⟨⟨rfl,by omega,qE _ rfl⟩,trivial⟩
def zB:Prm:=⟨0,0,0,1,0,0,0,0⟩
abbrev pfStart:PF:=[(64+1000,FCl 8 60),(92+1000,FWire)]
theorem pfStart_ok:PF.oks Try.prog pfStart:=⟨wH,mk_wired,trivial⟩
def startR (inp:Int):List (Nat×SObj):=[(1,.cells [.opq 2,ii inp,.v (.slice none 0 0),.mp 3,ii 0,.opq 4,.opq 5,.opq 6,.opq 7,.opq 8,.opq 9,.opq 10,.opq 11,.opq 12,.opq 13,.opq 14,.opq 15,.opq 16,.opq 17,.opq 18,.opq 19,.opq 20] 170),(2,.row 8 1 (([zB].flatMap Prm.vals).map .v) 60),(3,.kmap false true []),(4,.row 2 1 [ii 0,ii 0] 139),(5,.row 1 1 [ii 0] 3),(6,.row 1 1 [ii 0] 3),(7,.row 1 1 [ii 0] 3),(8,.row 1 1 [ii 0] 3),(9,.row 1 1 [ii 0] 3),(10,.row 1 1 [ii 0] 3),(11,.row 1 1 [ii 0] 3),(12,.row 1 1 [ii 0] 3),(13,.row 1 1 [ii 0] 3),(14,.row 1 1 [ii 0] 3),(15,.row 1 1 [ii 0] 3),(16,.row 1 1 [ii 0] 3),(17,.row 1 1 [ii 0] 3),(18,.row 1 1 [ii 0] 3),(19,.row 1 1 [ii 0] 3),(20,.row 1 1 [ii 0] 3)]
theorem start_spec (inp:Int):BSpec Try.prog 59 [.agg [.opq 0,ii inp,.v (.slice none 0 0)]] [(0,.rwin 8 1 ([zB].flatMap Prm.vals))] 1 [] (.ptr 1 0) (startR inp) 21:=by
 have hc :∀w L' rd,(∀p,rd=some p→p∈L')→Cx.ok ⟨Try.prog,tab,pfStart,59,Try.f59,[],w,L',rd⟩:=fun w L' rd h=>⟨qI,pfStart_ok,Try.func59,mixed,h⟩
 refine BSpec.start (tab:=tab) (pf:=pfStart) (cuts:=[]) Try.func59 rfl ⟨⟨(show 0<1 by decide),trivial,trivial,trivial⟩,trivial⟩ rfl fun w L0 plp hL hLB hcov=>Run.s0 (hc w L0 none nofun) 100 _ ?_
 conv=>whnf
 refine Run.draw (hc w L0 none nofun) 10 ?_
 conv=>whnf
 refine⟨by kernel_rfl,?_⟩
 refine Run.W2 hc ?_
 conv=>whnf
 refine Run.s6 (T':=[(1,.ptr 2 0),(3,.ptr 12 0),(18,ii 0)]) (M':=[(12,.cells [.opq 3,ii inp,nq,.mp 6,ii 0,.opq 10,nq,nq,nq,nq,nq,nq,nq,nq,nq,nq,nq,nq,nq,nq,nq,nq] 170),(10,.row 2 1 [ii 0,ii 0] 139),(6,.kmap false true []),(2,.cells [.opq 3,ii inp,nq] 25),(3,.row 8 1 (([zB].flatMap Prm.vals).map .v) 60),(1,.pin plp)]) 14 ⟨⟨rfl,ltb rfl⟩,⟨rfl,ltb rfl⟩,⟨rfl,trivial⟩,trivial⟩ ⟨⟨rfl,ltb rfl,qE _ rfl⟩,⟨rfl,ltb rfl,qE _ rfl⟩,⟨rfl,ltb rfl,trivial⟩,⟨rfl,ltb rfl,qE _ rfl⟩,⟨rfl,by omega,Os.h _⟩,⟨rfl,by omega,pnx hcov rfl⟩,trivial⟩ (lbx hLB rfl) ?_
 refine Run.W2 hc ?_
 conv=>whnf
 refine Run.draw (hc w L0 none nofun) 10 ?_
 conv=>whnf
 refine⟨by decide,?_⟩
 conv=>whnf
 refine⟨by kernel_rfl,?_⟩
 refine Run.W2 hc ?_
 conv=>whnf
 refine Run.s6 (T':=[(1,.ptr 2 0),(3,.ptr 12 0),(18,ii 1)]) (M':=[(12,.cells [.opq 3,ii inp,nq,.mp 6,ii 0,.opq 10,.opq 19,nq,nq,nq,nq,nq,nq,nq,nq,nq,nq,nq,nq,nq,nq,nq] 170),(19,.row 1 1 [ii 0] 3),(10,.row 2 1 [ii 0,ii 0] 139),(6,.kmap false true []),(2,.cells [.opq 3,ii inp,nq] 25),(3,.row 8 1 (([zB].flatMap Prm.vals).map .v) 60),(1,.pin plp)]) 24 ⟨⟨rfl,ltb rfl⟩,⟨rfl,ltb rfl⟩,⟨rfl,trivial⟩,trivial⟩ ⟨⟨rfl,ltb rfl,qE _ rfl⟩,⟨rfl,ltb rfl,qE _ rfl⟩,⟨rfl,ltb rfl,qE _ rfl⟩,⟨rfl,ltb rfl,trivial⟩,⟨rfl,ltb rfl,qE _ rfl⟩,⟨rfl,by omega,Os.h _⟩,⟨rfl,by omega,pnx hcov rfl⟩,trivial⟩ (lbx hLB rfl) ?_
 refine Run.W2 hc ?_
 conv=>whnf
 refine Run.draw (hc w L0 none nofun) 10 ?_
 conv=>whnf
 refine⟨by decide,?_⟩
 conv=>whnf
 refine⟨by kernel_rfl,?_⟩
 refine Run.W2 hc ?_
 conv=>whnf
 refine Run.s6 (T':=[(1,.ptr 2 0),(3,.ptr 12 0),(18,ii 2)]) (M':=[(12,.cells [.opq 3,ii inp,nq,.mp 6,ii 0,.opq 10,.opq 19,.opq 29,nq,nq,nq,nq,nq,nq,nq,nq,nq,nq,nq,nq,nq,nq] 170),(19,.row 1 1 [ii 0] 3),(29,.row 1 1 [ii 0] 3),(10,.row 2 1 [ii 0,ii 0] 139),(6,.kmap false true []),(2,.cells [.opq 3,ii inp,nq] 25),(3,.row 8 1 (([zB].flatMap Prm.vals).map .v) 60),(1,.pin plp)]) 34 ⟨⟨rfl,ltb rfl⟩,⟨rfl,ltb rfl⟩,⟨rfl,trivial⟩,trivial⟩ (by repeat first|exact trivial|refine⟨⟨rfl,ltb rfl,qE _ rfl⟩,?_⟩|refine⟨⟨rfl,ltb rfl,trivial⟩,?_⟩|refine⟨⟨rfl,by omega,Os.h _⟩,?_⟩|refine⟨⟨rfl,by omega,pnx hcov rfl⟩,?_⟩) (lbx hLB rfl) ?_
 refine Run.W2 hc ?_
 conv=>whnf
 refine Run.draw (hc w L0 none nofun) 10 ?_
 conv=>whnf
 refine⟨by decide,?_⟩
 conv=>whnf
 refine⟨by kernel_rfl,?_⟩
 refine Run.W2 hc ?_
 conv=>whnf
 refine Run.s6 (T':=[(1,.ptr 2 0),(3,.ptr 12 0),(18,ii 3)]) (M':=[(12,.cells [.opq 3,ii inp,nq,.mp 6,ii 0,.opq 10,.opq 19,.opq 29,.opq 39,nq,nq,nq,nq,nq,nq,nq,nq,nq,nq,nq,nq,nq] 170),(19,.row 1 1 [ii 0] 3),(29,.row 1 1 [ii 0] 3),(39,.row 1 1 [ii 0] 3),(10,.row 2 1 [ii 0,ii 0] 139),(6,.kmap false true []),(2,.cells [.opq 3,ii inp,nq] 25),(3,.row 8 1 (([zB].flatMap Prm.vals).map .v) 60),(1,.pin plp)]) 44 ⟨⟨rfl,ltb rfl⟩,⟨rfl,ltb rfl⟩,⟨rfl,trivial⟩,trivial⟩ (by repeat first|exact trivial|refine⟨⟨rfl,ltb rfl,qE _ rfl⟩,?_⟩|refine⟨⟨rfl,ltb rfl,trivial⟩,?_⟩|refine⟨⟨rfl,by omega,Os.h _⟩,?_⟩|refine⟨⟨rfl,by omega,pnx hcov rfl⟩,?_⟩) (lbx hLB rfl) ?_
 refine Run.W2 hc ?_
 conv=>whnf
 refine Run.draw (hc w L0 none nofun) 10 ?_
 conv=>whnf
 refine⟨by decide,?_⟩
 conv=>whnf
 refine⟨by kernel_rfl,?_⟩
 refine Run.W2 hc ?_
 conv=>whnf
 refine Run.s6 (T':=[(1,.ptr 2 0),(3,.ptr 12 0),(18,ii 4)]) (M':=[(12,.cells [.opq 3,ii inp,nq,.mp 6,ii 0,.opq 10,.opq 19,.opq 29,.opq 39,.opq 49,nq,nq,nq,nq,nq,nq,nq,nq,nq,nq,nq,nq] 170),(19,.row 1 1 [ii 0] 3),(29,.row 1 1 [ii 0] 3),(39,.row 1 1 [ii 0] 3),(49,.row 1 1 [ii 0] 3),(10,.row 2 1 [ii 0,ii 0] 139),(6,.kmap false true []),(2,.cells [.opq 3,ii inp,nq] 25),(3,.row 8 1 (([zB].flatMap Prm.vals).map .v) 60),(1,.pin plp)]) 54 ⟨⟨rfl,ltb rfl⟩,⟨rfl,ltb rfl⟩,⟨rfl,trivial⟩,trivial⟩ (by repeat first|exact trivial|refine⟨⟨rfl,ltb rfl,qE _ rfl⟩,?_⟩|refine⟨⟨rfl,ltb rfl,trivial⟩,?_⟩|refine⟨⟨rfl,by omega,Os.h _⟩,?_⟩|refine⟨⟨rfl,by omega,pnx hcov rfl⟩,?_⟩) (lbx hLB rfl) ?_
 refine Run.W2 hc ?_
 conv=>whnf
 refine Run.draw (hc w L0 none nofun) 10 ?_
 conv=>whnf
 refine⟨by decide,?_⟩
 conv=>whnf
 refine⟨by kernel_rfl,?_⟩
 refine Run.W2 hc ?_
 conv=>whnf
 refine Run.s6 (T':=[(1,.ptr 2 0),(3,.ptr 12 0),(18,ii 5)]) (M':=[(12,.cells [.opq 3,ii inp,nq,.mp 6,ii 0,.opq 10,.opq 19,.opq 29,.opq 39,.opq 49,.opq 59,nq,nq,nq,nq,nq,nq,nq,nq,nq,nq,nq] 170),(19,.row 1 1 [ii 0] 3),(29,.row 1 1 [ii 0] 3),(39,.row 1 1 [ii 0] 3),(49,.row 1 1 [ii 0] 3),(59,.row 1 1 [ii 0] 3),(10,.row 2 1 [ii 0,ii 0] 139),(6,.kmap false true []),(2,.cells [.opq 3,ii inp,nq] 25),(3,.row 8 1 (([zB].flatMap Prm.vals).map .v) 60),(1,.pin plp)]) 64 ⟨⟨rfl,ltb rfl⟩,⟨rfl,ltb rfl⟩,⟨rfl,trivial⟩,trivial⟩ (by repeat first|exact trivial|refine⟨⟨rfl,ltb rfl,qE _ rfl⟩,?_⟩|refine⟨⟨rfl,ltb rfl,trivial⟩,?_⟩|refine⟨⟨rfl,by omega,Os.h _⟩,?_⟩|refine⟨⟨rfl,by omega,pnx hcov rfl⟩,?_⟩) (lbx hLB rfl) ?_
 refine Run.W2 hc ?_
 conv=>whnf
 refine Run.draw (hc w L0 none nofun) 10 ?_
 conv=>whnf
 refine⟨by decide,?_⟩
 conv=>whnf
 refine⟨by kernel_rfl,?_⟩
 refine Run.W2 hc ?_
 conv=>whnf
 refine Run.s6 (T':=[(1,.ptr 2 0),(3,.ptr 12 0),(18,ii 6)]) (M':=[(12,.cells [.opq 3,ii inp,nq,.mp 6,ii 0,.opq 10,.opq 19,.opq 29,.opq 39,.opq 49,.opq 59,.opq 69,nq,nq,nq,nq,nq,nq,nq,nq,nq,nq] 170),(19,.row 1 1 [ii 0] 3),(29,.row 1 1 [ii 0] 3),(39,.row 1 1 [ii 0] 3),(49,.row 1 1 [ii 0] 3),(59,.row 1 1 [ii 0] 3),(69,.row 1 1 [ii 0] 3),(10,.row 2 1 [ii 0,ii 0] 139),(6,.kmap false true []),(2,.cells [.opq 3,ii inp,nq] 25),(3,.row 8 1 (([zB].flatMap Prm.vals).map .v) 60),(1,.pin plp)]) 74 ⟨⟨rfl,ltb rfl⟩,⟨rfl,ltb rfl⟩,⟨rfl,trivial⟩,trivial⟩ (by repeat first|exact trivial|refine⟨⟨rfl,ltb rfl,qE _ rfl⟩,?_⟩|refine⟨⟨rfl,ltb rfl,trivial⟩,?_⟩|refine⟨⟨rfl,by omega,Os.h _⟩,?_⟩|refine⟨⟨rfl,by omega,pnx hcov rfl⟩,?_⟩) (lbx hLB rfl) ?_
 refine Run.W2 hc ?_
 conv=>whnf
 refine Run.draw (hc w L0 none nofun) 10 ?_
 conv=>whnf
 refine⟨by decide,?_⟩
 conv=>whnf
 refine⟨by kernel_rfl,?_⟩
 refine Run.W2 hc ?_
 conv=>whnf
 refine Run.s6 (T':=[(1,.ptr 2 0),(3,.ptr 12 0),(18,ii 7)]) (M':=[(12,.cells [.opq 3,ii inp,nq,.mp 6,ii 0,.opq 10,.opq 19,.opq 29,.opq 39,.opq 49,.opq 59,.opq 69,.opq 79,nq,nq,nq,nq,nq,nq,nq,nq,nq] 170),(19,.row 1 1 [ii 0] 3),(29,.row 1 1 [ii 0] 3),(39,.row 1 1 [ii 0] 3),(49,.row 1 1 [ii 0] 3),(59,.row 1 1 [ii 0] 3),(69,.row 1 1 [ii 0] 3),(79,.row 1 1 [ii 0] 3),(10,.row 2 1 [ii 0,ii 0] 139),(6,.kmap false true []),(2,.cells [.opq 3,ii inp,nq] 25),(3,.row 8 1 (([zB].flatMap Prm.vals).map .v) 60),(1,.pin plp)]) 84 ⟨⟨rfl,ltb rfl⟩,⟨rfl,ltb rfl⟩,⟨rfl,trivial⟩,trivial⟩ (by repeat first|exact trivial|refine⟨⟨rfl,ltb rfl,qE _ rfl⟩,?_⟩|refine⟨⟨rfl,ltb rfl,trivial⟩,?_⟩|refine⟨⟨rfl,by omega,Os.h _⟩,?_⟩|refine⟨⟨rfl,by omega,pnx hcov rfl⟩,?_⟩) (lbx hLB rfl) ?_
 refine Run.W2 hc ?_
 conv=>whnf
 refine Run.draw (hc w L0 none nofun) 10 ?_
 conv=>whnf
 refine⟨by decide,?_⟩
 conv=>whnf
 refine⟨by kernel_rfl,?_⟩
 refine Run.W2 hc ?_
 conv=>whnf
 refine Run.s6 (T':=[(1,.ptr 2 0),(3,.ptr 12 0),(18,ii 8)]) (M':=[(12,.cells [.opq 3,ii inp,nq,.mp 6,ii 0,.opq 10,.opq 19,.opq 29,.opq 39,.opq 49,.opq 59,.opq 69,.opq 79,.opq 89,nq,nq,nq,nq,nq,nq,nq,nq] 170),(19,.row 1 1 [ii 0] 3),(29,.row 1 1 [ii 0] 3),(39,.row 1 1 [ii 0] 3),(49,.row 1 1 [ii 0] 3),(59,.row 1 1 [ii 0] 3),(69,.row 1 1 [ii 0] 3),(79,.row 1 1 [ii 0] 3),(89,.row 1 1 [ii 0] 3),(10,.row 2 1 [ii 0,ii 0] 139),(6,.kmap false true []),(2,.cells [.opq 3,ii inp,nq] 25),(3,.row 8 1 (([zB].flatMap Prm.vals).map .v) 60),(1,.pin plp)]) 94 ⟨⟨rfl,ltb rfl⟩,⟨rfl,ltb rfl⟩,⟨rfl,trivial⟩,trivial⟩ (by repeat first|exact trivial|refine⟨⟨rfl,ltb rfl,qE _ rfl⟩,?_⟩|refine⟨⟨rfl,ltb rfl,trivial⟩,?_⟩|refine⟨⟨rfl,by omega,Os.h _⟩,?_⟩|refine⟨⟨rfl,by omega,pnx hcov rfl⟩,?_⟩) (lbx hLB rfl) ?_
 refine Run.W2 hc ?_
 conv=>whnf
 refine Run.draw (hc w L0 none nofun) 10 ?_
 conv=>whnf
 refine⟨by decide,?_⟩
 conv=>whnf
 refine⟨by kernel_rfl,?_⟩
 refine Run.W2 hc ?_
 conv=>whnf
 refine Run.s6 (T':=[(1,.ptr 2 0),(3,.ptr 12 0),(18,ii 9)]) (M':=[(12,.cells [.opq 3,ii inp,nq,.mp 6,ii 0,.opq 10,.opq 19,.opq 29,.opq 39,.opq 49,.opq 59,.opq 69,.opq 79,.opq 89,.opq 99,nq,nq,nq,nq,nq,nq,nq] 170),(19,.row 1 1 [ii 0] 3),(29,.row 1 1 [ii 0] 3),(39,.row 1 1 [ii 0] 3),(49,.row 1 1 [ii 0] 3),(59,.row 1 1 [ii 0] 3),(69,.row 1 1 [ii 0] 3),(79,.row 1 1 [ii 0] 3),(89,.row 1 1 [ii 0] 3),(99,.row 1 1 [ii 0] 3),(10,.row 2 1 [ii 0,ii 0] 139),(6,.kmap false true []),(2,.cells [.opq 3,ii inp,nq] 25),(3,.row 8 1 (([zB].flatMap Prm.vals).map .v) 60),(1,.pin plp)]) 104 ⟨⟨rfl,ltb rfl⟩,⟨rfl,ltb rfl⟩,⟨rfl,trivial⟩,trivial⟩ (by repeat first|exact trivial|refine⟨⟨rfl,ltb rfl,qE _ rfl⟩,?_⟩|refine⟨⟨rfl,ltb rfl,trivial⟩,?_⟩|refine⟨⟨rfl,by omega,Os.h _⟩,?_⟩|refine⟨⟨rfl,by omega,pnx hcov rfl⟩,?_⟩) (lbx hLB rfl) ?_
 refine Run.W2 hc ?_
 conv=>whnf
 refine Run.draw (hc w L0 none nofun) 10 ?_
 conv=>whnf
 refine⟨by decide,?_⟩
 conv=>whnf
 refine⟨by kernel_rfl,?_⟩
 refine Run.W2 hc ?_
 conv=>whnf
 refine Run.s6 (T':=[(1,.ptr 2 0),(3,.ptr 12 0),(18,ii 10)]) (M':=[(12,.cells [.opq 3,ii inp,nq,.mp 6,ii 0,.opq 10,.opq 19,.opq 29,.opq 39,.opq 49,.opq 59,.opq 69,.opq 79,.opq 89,.opq 99,.opq 109,nq,nq,nq,nq,nq,nq] 170),(19,.row 1 1 [ii 0] 3),(29,.row 1 1 [ii 0] 3),(39,.row 1 1 [ii 0] 3),(49,.row 1 1 [ii 0] 3),(59,.row 1 1 [ii 0] 3),(69,.row 1 1 [ii 0] 3),(79,.row 1 1 [ii 0] 3),(89,.row 1 1 [ii 0] 3),(99,.row 1 1 [ii 0] 3),(109,.row 1 1 [ii 0] 3),(10,.row 2 1 [ii 0,ii 0] 139),(6,.kmap false true []),(2,.cells [.opq 3,ii inp,nq] 25),(3,.row 8 1 (([zB].flatMap Prm.vals).map .v) 60),(1,.pin plp)]) 114 ⟨⟨rfl,ltb rfl⟩,⟨rfl,ltb rfl⟩,⟨rfl,trivial⟩,trivial⟩ (by repeat first|exact trivial|refine⟨⟨rfl,ltb rfl,qE _ rfl⟩,?_⟩|refine⟨⟨rfl,ltb rfl,trivial⟩,?_⟩|refine⟨⟨rfl,by omega,Os.h _⟩,?_⟩|refine⟨⟨rfl,by omega,pnx hcov rfl⟩,?_⟩) (lbx hLB rfl) ?_
 refine Run.W2 hc ?_
 conv=>whnf
 refine Run.draw (hc w L0 none nofun) 10 ?_
 conv=>whnf
 refine⟨by decide,?_⟩
 conv=>whnf
 refine⟨by kernel_rfl,?_⟩
 refine Run.W2 hc ?_
 conv=>whnf
 refine Run.s6 (T':=[(1,.ptr 2 0),(3,.ptr 12 0),(18,ii 11)]) (M':=[(12,.cells [.opq 3,ii inp,nq,.mp 6,ii 0,.opq 10,.opq 19,.opq 29,.opq 39,.opq 49,.opq 59,.opq 69,.opq 79,.opq 89,.opq 99,.opq 109,.opq 119,nq,nq,nq,nq,nq] 170),(19,.row 1 1 [ii 0] 3),(29,.row 1 1 [ii 0] 3),(39,.row 1 1 [ii 0] 3),(49,.row 1 1 [ii 0] 3),(59,.row 1 1 [ii 0] 3),(69,.row 1 1 [ii 0] 3),(79,.row 1 1 [ii 0] 3),(89,.row 1 1 [ii 0] 3),(99,.row 1 1 [ii 0] 3),(109,.row 1 1 [ii 0] 3),(119,.row 1 1 [ii 0] 3),(10,.row 2 1 [ii 0,ii 0] 139),(6,.kmap false true []),(2,.cells [.opq 3,ii inp,nq] 25),(3,.row 8 1 (([zB].flatMap Prm.vals).map .v) 60),(1,.pin plp)]) 124 ⟨⟨rfl,ltb rfl⟩,⟨rfl,ltb rfl⟩,⟨rfl,trivial⟩,trivial⟩ (by repeat first|exact trivial|refine⟨⟨rfl,ltb rfl,qE _ rfl⟩,?_⟩|refine⟨⟨rfl,ltb rfl,trivial⟩,?_⟩|refine⟨⟨rfl,by omega,Os.h _⟩,?_⟩|refine⟨⟨rfl,by omega,pnx hcov rfl⟩,?_⟩) (lbx hLB rfl) ?_
 refine Run.W2 hc ?_
 conv=>whnf
 refine Run.draw (hc w L0 none nofun) 10 ?_
 conv=>whnf
 refine⟨by decide,?_⟩
 conv=>whnf
 refine⟨by kernel_rfl,?_⟩
 refine Run.W2 hc ?_
 conv=>whnf
 refine Run.s6 (T':=[(1,.ptr 2 0),(3,.ptr 12 0),(18,ii 12)]) (M':=[(12,.cells [.opq 3,ii inp,nq,.mp 6,ii 0,.opq 10,.opq 19,.opq 29,.opq 39,.opq 49,.opq 59,.opq 69,.opq 79,.opq 89,.opq 99,.opq 109,.opq 119,.opq 129,nq,nq,nq,nq] 170),(19,.row 1 1 [ii 0] 3),(29,.row 1 1 [ii 0] 3),(39,.row 1 1 [ii 0] 3),(49,.row 1 1 [ii 0] 3),(59,.row 1 1 [ii 0] 3),(69,.row 1 1 [ii 0] 3),(79,.row 1 1 [ii 0] 3),(89,.row 1 1 [ii 0] 3),(99,.row 1 1 [ii 0] 3),(109,.row 1 1 [ii 0] 3),(119,.row 1 1 [ii 0] 3),(129,.row 1 1 [ii 0] 3),(10,.row 2 1 [ii 0,ii 0] 139),(6,.kmap false true []),(2,.cells [.opq 3,ii inp,nq] 25),(3,.row 8 1 (([zB].flatMap Prm.vals).map .v) 60),(1,.pin plp)]) 134 ⟨⟨rfl,ltb rfl⟩,⟨rfl,ltb rfl⟩,⟨rfl,trivial⟩,trivial⟩ (by repeat first|exact trivial|refine⟨⟨rfl,ltb rfl,qE _ rfl⟩,?_⟩|refine⟨⟨rfl,ltb rfl,trivial⟩,?_⟩|refine⟨⟨rfl,by omega,Os.h _⟩,?_⟩|refine⟨⟨rfl,by omega,pnx hcov rfl⟩,?_⟩) (lbx hLB rfl) ?_
 refine Run.W2 hc ?_
 conv=>whnf
 refine Run.draw (hc w L0 none nofun) 10 ?_
 conv=>whnf
 refine⟨by decide,?_⟩
 conv=>whnf
 refine⟨by kernel_rfl,?_⟩
 refine Run.W2 hc ?_
 conv=>whnf
 refine Run.s6 (T':=[(1,.ptr 2 0),(3,.ptr 12 0),(18,ii 13)]) (M':=[(12,.cells [.opq 3,ii inp,nq,.mp 6,ii 0,.opq 10,.opq 19,.opq 29,.opq 39,.opq 49,.opq 59,.opq 69,.opq 79,.opq 89,.opq 99,.opq 109,.opq 119,.opq 129,.opq 139,nq,nq,nq] 170),(19,.row 1 1 [ii 0] 3),(29,.row 1 1 [ii 0] 3),(39,.row 1 1 [ii 0] 3),(49,.row 1 1 [ii 0] 3),(59,.row 1 1 [ii 0] 3),(69,.row 1 1 [ii 0] 3),(79,.row 1 1 [ii 0] 3),(89,.row 1 1 [ii 0] 3),(99,.row 1 1 [ii 0] 3),(109,.row 1 1 [ii 0] 3),(119,.row 1 1 [ii 0] 3),(129,.row 1 1 [ii 0] 3),(139,.row 1 1 [ii 0] 3),(10,.row 2 1 [ii 0,ii 0] 139),(6,.kmap false true []),(2,.cells [.opq 3,ii inp,nq] 25),(3,.row 8 1 (([zB].flatMap Prm.vals).map .v) 60),(1,.pin plp)]) 144 ⟨⟨rfl,ltb rfl⟩,⟨rfl,ltb rfl⟩,⟨rfl,trivial⟩,trivial⟩ (by repeat first|exact trivial|refine⟨⟨rfl,ltb rfl,qE _ rfl⟩,?_⟩|refine⟨⟨rfl,ltb rfl,trivial⟩,?_⟩|refine⟨⟨rfl,by omega,Os.h _⟩,?_⟩|refine⟨⟨rfl,by omega,pnx hcov rfl⟩,?_⟩) (lbx hLB rfl) ?_
 refine Run.W2 hc ?_
 conv=>whnf
 refine Run.draw (hc w L0 none nofun) 10 ?_
 conv=>whnf
 refine⟨by decide,?_⟩
 conv=>whnf
 refine⟨by kernel_rfl,?_⟩
 refine Run.W2 hc ?_
 conv=>whnf
 refine Run.s6 (T':=[(1,.ptr 2 0),(3,.ptr 12 0),(18,ii 14)]) (M':=[(12,.cells [.opq 3,ii inp,nq,.mp 6,ii 0,.opq 10,.opq 19,.opq 29,.opq 39,.opq 49,.opq 59,.opq 69,.opq 79,.opq 89,.opq 99,.opq 109,.opq 119,.opq 129,.opq 139,.opq 149,nq,nq] 170),(19,.row 1 1 [ii 0] 3),(29,.row 1 1 [ii 0] 3),(39,.row 1 1 [ii 0] 3),(49,.row 1 1 [ii 0] 3),(59,.row 1 1 [ii 0] 3),(69,.row 1 1 [ii 0] 3),(79,.row 1 1 [ii 0] 3),(89,.row 1 1 [ii 0] 3),(99,.row 1 1 [ii 0] 3),(109,.row 1 1 [ii 0] 3),(119,.row 1 1 [ii 0] 3),(129,.row 1 1 [ii 0] 3),(139,.row 1 1 [ii 0] 3),(149,.row 1 1 [ii 0] 3),(10,.row 2 1 [ii 0,ii 0] 139),(6,.kmap false true []),(2,.cells [.opq 3,ii inp,nq] 25),(3,.row 8 1 (([zB].flatMap Prm.vals).map .v) 60),(1,.pin plp)]) 154 ⟨⟨rfl,ltb rfl⟩,⟨rfl,ltb rfl⟩,⟨rfl,trivial⟩,trivial⟩ (by repeat first|exact trivial|refine⟨⟨rfl,ltb rfl,qE _ rfl⟩,?_⟩|refine⟨⟨rfl,ltb rfl,trivial⟩,?_⟩|refine⟨⟨rfl,by omega,Os.h _⟩,?_⟩|refine⟨⟨rfl,by omega,pnx hcov rfl⟩,?_⟩) (lbx hLB rfl) ?_
 refine Run.W2 hc ?_
 conv=>whnf
 refine Run.draw (hc w L0 none nofun) 10 ?_
 conv=>whnf
 refine⟨by decide,?_⟩
 conv=>whnf
 refine⟨by kernel_rfl,?_⟩
 refine Run.W2 hc ?_
 conv=>whnf
 refine Run.s6 (T':=[(1,.ptr 2 0),(3,.ptr 12 0),(18,ii 15)]) (M':=[(12,.cells [.opq 3,ii inp,nq,.mp 6,ii 0,.opq 10,.opq 19,.opq 29,.opq 39,.opq 49,.opq 59,.opq 69,.opq 79,.opq 89,.opq 99,.opq 109,.opq 119,.opq 129,.opq 139,.opq 149,.opq 159,nq] 170),(19,.row 1 1 [ii 0] 3),(29,.row 1 1 [ii 0] 3),(39,.row 1 1 [ii 0] 3),(49,.row 1 1 [ii 0] 3),(59,.row 1 1 [ii 0] 3),(69,.row 1 1 [ii 0] 3),(79,.row 1 1 [ii 0] 3),(89,.row 1 1 [ii 0] 3),(99,.row 1 1 [ii 0] 3),(109,.row 1 1 [ii 0] 3),(119,.row 1 1 [ii 0] 3),(129,.row 1 1 [ii 0] 3),(139,.row 1 1 [ii 0] 3),(149,.row 1 1 [ii 0] 3),(159,.row 1 1 [ii 0] 3),(10,.row 2 1 [ii 0,ii 0] 139),(6,.kmap false true []),(2,.cells [.opq 3,ii inp,nq] 25),(3,.row 8 1 (([zB].flatMap Prm.vals).map .v) 60),(1,.pin plp)]) 164 ⟨⟨rfl,ltb rfl⟩,⟨rfl,ltb rfl⟩,⟨rfl,trivial⟩,trivial⟩ (by repeat first|exact trivial|refine⟨⟨rfl,ltb rfl,qE _ rfl⟩,?_⟩|refine⟨⟨rfl,ltb rfl,trivial⟩,?_⟩|refine⟨⟨rfl,by omega,Os.h _⟩,?_⟩|refine⟨⟨rfl,by omega,pnx hcov rfl⟩,?_⟩) (lbx hLB rfl) ?_
 refine Run.W2 hc ?_
 conv=>whnf
 refine Run.draw (hc w L0 none nofun) 10 ?_
 conv=>whnf
 refine⟨by decide,?_⟩
 conv=>whnf
 refine⟨by kernel_rfl,?_⟩
 refine Run.W2 hc ?_
 conv=>whnf
 refine Run.s6 (T':=[(1,.ptr 2 0),(3,.ptr 12 0),(18,ii 16)]) (M':=[(12,.cells [.opq 3,ii inp,nq,.mp 6,ii 0,.opq 10,.opq 19,.opq 29,.opq 39,.opq 49,.opq 59,.opq 69,.opq 79,.opq 89,.opq 99,.opq 109,.opq 119,.opq 129,.opq 139,.opq 149,.opq 159,.opq 169] 170),(19,.row 1 1 [ii 0] 3),(29,.row 1 1 [ii 0] 3),(39,.row 1 1 [ii 0] 3),(49,.row 1 1 [ii 0] 3),(59,.row 1 1 [ii 0] 3),(69,.row 1 1 [ii 0] 3),(79,.row 1 1 [ii 0] 3),(89,.row 1 1 [ii 0] 3),(99,.row 1 1 [ii 0] 3),(109,.row 1 1 [ii 0] 3),(119,.row 1 1 [ii 0] 3),(129,.row 1 1 [ii 0] 3),(139,.row 1 1 [ii 0] 3),(149,.row 1 1 [ii 0] 3),(159,.row 1 1 [ii 0] 3),(169,.row 1 1 [ii 0] 3),(10,.row 2 1 [ii 0,ii 0] 139),(6,.kmap false true []),(2,.cells [.opq 3,ii inp,nq] 25),(3,.row 8 1 (([zB].flatMap Prm.vals).map .v) 60),(1,.pin plp)]) 174 ⟨⟨rfl,ltb rfl⟩,⟨rfl,ltb rfl⟩,⟨rfl,trivial⟩,trivial⟩ (by repeat first|exact trivial|refine⟨⟨rfl,ltb rfl,qE _ rfl⟩,?_⟩|refine⟨⟨rfl,ltb rfl,trivial⟩,?_⟩|refine⟨⟨rfl,by omega,Os.h _⟩,?_⟩|refine⟨⟨rfl,by omega,pnx hcov rfl⟩,?_⟩) (lbx hLB rfl) ?_
 refine Run.W2 hc ?_
 conv=>whnf
 refine SpecR.rT (rq [(1,12),(2,3),(3,6),(4,10),(5,19),(6,29),(7,39),(8,49),(9,59),(10,69),(11,79),(12,89),(13,99),(14,109),(15,119),(16,129),(17,139),(18,149),(19,159),(20,169)]) (fun i hi=>zG (zA (B:=1) rfl hi)) ?_ (Widens.refl _ _) hLB (by decide) hcov rfl rfl (show 1<21 by decide) ?_
 ·intro i hi j hj hne
  have inj :∀i,i<21 → ∀j,j<21→i≠j→rq [(1,12),(2,3),(3,6),(4,10),(5,19),(6,29),(7,39),(8,49),(9,59),(10,69),(11,79),(12,89),(13,99),(14,109),(15,119),(16,129),(17,139),(18,149),(19,159),(20,169)] i≠rq [(1,12),(2,3),(3,6),(4,10),(5,19),(6,29),(7,39),(8,49),(9,59),(10,69),(11,79),(12,89),(13,99),(14,109),(15,119),(16,129),(17,139),(18,149),(19,159),(20,169)] j:=by decide
  exact inj i hi j hj hne
 ·exact(by repeat first|exact trivial|refine⟨⟨rfl,by omega,qE _ rfl⟩,?_⟩|refine⟨⟨rfl,by omega,Os.h _⟩,?_⟩|refine⟨⟨by rw[ofx (o:=.row 8 1 (([zB].flatMap Prm.vals).map .v) 60) (qL _ _)];rfl,by omega,Os.h _⟩,?_⟩)
end Go.Proofs.Ytnnlpdgnlccbjaa
